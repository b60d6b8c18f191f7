/- A text of this proof. -/
import Derived.Test.YtgglaabljlhliaaGreatKah
import Derived.Test.YtgglaabljlhliaaGreatProg
set_option linter.unusedVariables false
set_option linter.unusedSimpArgs false
/- The compiled code of the functions. -/
namespace Go.Proofs.YtgglaabljlhliaaGreat
open Go Go.V
@[reducible] def zm (d s:Nat):GI:=⟨none,some d,.v (.mov (.t s))⟩
@[reducible] def zv (d:Nat) (x:IV):GI:=⟨none,some d,.v x⟩
@[reducible] def zi (d:Nat) (i:I):GI:=⟨none,some d,i⟩
@[reducible] def zn (i:I):GI:=⟨none,none,i⟩
@[reducible] def zw (j:Nat) (b:Bool) (d:Nat) (x:IV):GI:=⟨some (j,b),some d,.v x⟩
@[reducible] def zp (g:GI):GI×List Nat:=(g,[])
@[reducible] def zN:Co:=.agg [.id,.id,.id,.id,(.sl 5)]
@[reducible] def zC:Co:=.agg [(.sl 4),.id,.id,.id,.id,.id,.id,.id]
@[reducible] def zaN:I:=.alo [(.int .i64 0),(.int .i64 0),(.int .i64 0),(.str []),.nils]
@[reducible] def zaC:I:=.alo [.nils,(.int .i64 0),(.int .i64 0),(.int .i64 0),(.str []),(.int .i64 0),(.int .i64 0),(.int .i64 0)]
@[reducible] def zaT:I:=.alo [(.int .i64 0),(.int .i64 0),(.int .i64 0),(.str [])]
@[reducible] def zZ:AV:=.agg [(.int .i64 0),(.int .i64 0),(.int .i64 0),(.str []),.nils]
@[reducible] def zc (n:Int):Opd:=.c (.int .i64 n)
@[reducible] def zf:IV:=.mov (.c (.bool false))
@[reducible] def zr (l:List GI):IC:=.reg false l
@[reducible] def zk (f:FuncId) (l:List (Opd×Co)):I:=.call (.c (.fn f [] [])) l
@[reducible] def zA (n:Nat):Opd×Co:=(.t n,zN)
@[reducible] def zI (n:Nat):Opd×Co:=(.t n,.id)
@[reducible] def zx (n k:Nat):IV:=.ext (.t n) k
@[reducible] def zl (n k:Nat):IV:=.ld true n (.t k)
@[reducible] def zg (n k:Nat):IV:=.ld false n (.t k)
@[reducible] def zd (n k:Nat):IV:=.fad (.t n) k
@[reducible] def zq (a b:Opd):IV:=.bin .eql .no a b
@[reducible] def zo (n:Nat):IV:=.mov (.t n)
@[reducible] def zj (j:Nat) (b:Bool) (d:Nat) (i:I):GI:=⟨some (j,b),some d,i⟩
def qbff:IC:=zr [zi 3 (.box (.t 0)),zi 5 (.box (.t 2)),zv 6 zf]
def qbjg:IC:=zr [zm 16 1,zv 17 (.len false (.t 16)),zv 18 (zq (.t 17) (zc 0))]
def qbuq:IC:=zr [zi 19 (zk 7 []),zm 6 19]
def qbdx:IC:=.drw [zp (zm 20 1),zp (zv 21 (.iad 4 (.t 20) (zc 0))),zp (zv 22 (zl 4 21)),zp (zm 23 1),zp (zv 24 (.slv 4 (.t 23) (some (zc 1)) none none)),(zi 7 (.alo [(.str []),(.str []),(.int .i64 0),.nils]),[2,4]),(zn (.st 4 (.agg [.id,.id,.id,(.sl 3)]) (.t 7) (.t 22)),[4]),zp (zm 8 24)]
def q02:IC:=zr [zv 25 (zl 3 3),zm 26 8,zv 27 (zl 4 7),zv 28 (zl 3 5),zv 29 (.bld [(.str []),(.str []),(.int .i64 0),.nils] [(0,1,(.c (.str [67]))),(1,3,(.t 28))]),zv 30 (.bsl 4 [((.t 27),(.agg [.id,.id,.id,(.sl 3)])),((.t 29),(.agg [.id,.id,.id,(.sl 3)]))]),zi 31 (zk 6 [((.t 25),(.agg [(.sl 3),(.sl 3),(.sl 4)])),((.t 26),(.sl 4)),((.t 30),(.sl 4))]),zv 32 (.un .not (.t 31)),zm 33 32,zw 33 false 34 (zl 3 5),zj 33 false 35 (zk 10 [((.t 34),(.agg [.id,.id,(.sl 3)]))]),zw 33 false 36 (.un .not (.t 35)),zv 37 (.pick (.t 33) (.c (.bool true)) (.t 36)),zm 38 37,zw 38 false 39 (zl 3 5),zj 38 false 40 (zk 11 [((.t 39),(.agg [.id,.id,(.sl 3)]))]),zw 38 false 41 (.bin .gtr .no (.t 40) (zc 6)),zv 42 (.pick (.t 38) (.c (.bool true)) (.t 41))]
def qbmp:IC:=zr [zi 43 (zk 7 []),zm 6 43]
def q26:IC:=zr [zv 45 (zl 3 3),zm 46 8,zv 47 (zl 4 7),zi 48 (zk 8 [((.t 45),(.agg [(.sl 3),(.sl 3),(.sl 4)])),((.t 46),(.sl 4)),((.t 47),(.agg [.id,.id,.id,(.sl 3)]))]),zm 44 48,zv 49 (zx 44 0),zv 50 (zx 44 1),zi 9 (.alo [(.int .i64 0),(.int .i64 0),.nils,.nils]),zn (.st 4 (.agg [.id,.id,(.sl 3),(.sl 4)]) (.t 9) (.t 49)),zm 10 50]
def qbkm:IC:=zr [zv 11 (.mov (.c .nils))]
def qbis:IC:=zr [zv 12 (.mov (zc 0))]
def q9z:IC:=zr [zm 51 12,zm 52 8,zv 53 (.len false (.t 52)),zv 54 (.bin .lss .no (.t 51) (.t 53))]
def qba3:IC:=.drw [zp (zm 57 11),zp (zm 58 8),zp (zm 59 12),zp (zv 60 (.iad 4 (.t 58) (.t 59))),zp (zv 61 (zl 4 60)),zp (zv 62 (zl 3 5)),(zi 63 (zk 12 [((.t 61),(.agg [.id,.id,.id,(.sl 3)])),((.t 62),(.agg [.id,.id,(.sl 3)]))]),[]),(zv 64 (.bsl 4 [((.t 63),(.agg [.id,.id,.id,(.sl 3)]))]),[]),(zi 65 (.app 4 (.agg [(.str []),(.str []),(.int .i64 0),.nils]) 64 (.sl 4) (.t 57) (.t 64)),[]),zp (zm 11 65)]
def q5u:IC:=zr [zm 55 12,zv 56 (.bin .add .no (.t 55) (zc 1)),zm 12 56]
def qbun:IC:=(.seq (.seq q9z (.cond (.t 54) .skip (.exit 0))) (.seq (.block 1 qba3) q5u))
def q8k:IC:=zr [zv 66 (zl 4 7),zv 67 (zl 3 5),zi 68 (zk 12 [((.t 66),(.agg [.id,.id,.id,(.sl 3)])),((.t 67),(.agg [.id,.id,(.sl 3)]))]),zi 13 (.alo [(.str []),(.str []),(.int .i64 0),.nils]),zn (.st 4 (.agg [.id,.id,.id,(.sl 3)]) (.t 13) (.t 68))]
def q9h:IC:=zr [zm 69 10,zv 70 (.bin .neq .no (.t 69) (zc 0)),zm 71 70,zw 71 false 72 (zl 4 13),zj 71 false 73 (zk 13 [((.t 72),(.agg [.id,.id,.id,(.sl 3)]))]),zw 71 false 74 (.un .not (.t 73)),zv 75 (.pick (.t 71) (.c (.bool true)) (.t 74)),zm 76 75,zw 76 false 77 (zo 11),zj 76 false 78 (zk 9 [((.t 77),(.sl 4))]),zw 76 false 79 (.un .not (.t 78)),zv 80 (.pick (.t 76) (.c (.bool true)) (.t 79))]
def q5j:IC:=zr [zi 81 (zk 7 []),zm 6 81]
def qba2:IC:=zr [zv 83 (zl 3 3),zm 84 11,zv 85 (zl 4 13),zi 86 (zk 8 [((.t 83),(.agg [(.sl 3),(.sl 3),(.sl 4)])),((.t 84),(.sl 4)),((.t 85),(.agg [.id,.id,.id,(.sl 3)]))]),zm 82 86,zv 87 (zx 82 0),zv 88 (zx 82 1),zi 14 (.alo [(.int .i64 0),(.int .i64 0),.nils,.nils]),zn (.st 4 (.agg [.id,.id,(.sl 3),(.sl 4)]) (.t 14) (.t 87)),zm 15 88]
def q42:IC:=zr [zm 89 15,zv 90 (zq (.t 89) (zc 0)),zm 91 90,zw 91 false 92 (zo 15),zw 91 false 93 (zq (.t 92) (zc 2)),zv 94 (.pick (.t 91) (.c (.bool true)) (.t 93)),zm 95 94,zj 95 true 96 (zk 7 []),zv 97 (.pick (.t 95) (.t 96) (.c (.bool false))),zm 6 97]
def k0da:IC:=(.seq qbff (.seq (.seq qbjg (.cond (.t 18) (.seq qbuq .ret) .skip)) (.seq qbdx (.seq (.seq q02 (.cond (.t 42) (.seq qbmp .ret) .skip)) (.seq q26 (.seq qbkm (.seq (.seq qbis (.block 0 (.loop qbun))) (.seq q8k (.seq (.seq q9h (.cond (.t 80) (.seq q5j .ret) .skip)) (.seq qba2 (.seq q42 .ret)))))))))))
@[go_sem] def s0da:List (RV×Co):=[(.t 6,.id)]
theorem c0da:cFun Tryz.prog 4 = some (98,k0da,s0da):=by kernel_rfl

def qbkn:IC:=zr [zi 3 (.box (.t 0)),zv 6 zf]
def qbdi:IC:=zr [zv 8 (zl 3 3),zi 9 (zk 19 [((.t 8),(.agg [(.sl 3),(.sl 3),(.sl 4)]))]),zv 10 (zq (.t 9) (zc 0)),zm 11 10,zw 11 false 12 (zo 1),zj 11 false 13 (zk 20 [((.t 12),(.sl 4))]),zw 11 false 14 (zq (.t 13) (zc 0)),zv 15 (.pick (.t 11) (.c (.bool true)) (.t 14)),zm 16 15,zw 16 false 17 (zo 2),zj 16 false 18 (zk 20 [((.t 17),(.sl 4))]),zw 16 false 19 (zq (.t 18) (zc 0)),zv 20 (.pick (.t 16) (.c (.bool true)) (.t 19))]
def qbkr:IC:=zr [zv 6 zf]
def qbgx:IC:=zr [zv 7 (.mov (zc 0))]
def qbf4:IC:=zr [zm 21 7,zm 22 2,zv 23 (.len false (.t 22)),zv 24 (.bin .lss .no (.t 21) (.t 23))]
def qbfk:IC:=zr [zm 27 2,zm 28 7,zv 29 (.iad 4 (.t 27) (.t 28)),zv 30 (zd 29 1),zv 31 (zl 3 30),zi 32 (zk 21 [((.t 31),(.agg [.id,.id,(.sl 3)]))]),zv 33 (.bin .gtr .no (.t 32) (zc 8)),zm 34 33,zw 34 true 35 (zo 2),zw 34 true 36 (zo 7),zw 34 true 37 (.iad 4 (.t 35) (.t 36)),zw 34 true 38 (zd 37 1),zw 34 true 39 (zl 3 38),zj 34 true 40 (zk 11 [((.t 39),(.agg [.id,.id,(.sl 3)]))]),zw 34 true 41 (.bin .gtr .no (.t 40) (zc 20)),zv 42 (.pick (.t 34) (.t 41) (.c (.bool false)))]
def qbub:IC:=zr [zv 6 zf]
def qbi1:IC:=zr [zm 25 7,zv 26 (.bin .add .no (.t 25) (zc 1)),zm 7 26]
def qbd7:IC:=(.seq (.seq qbf4 (.cond (.t 24) .skip (.exit 0))) (.seq (.block 1 (.seq qbfk (.cond (.t 42) (.seq qbub .ret) .skip))) qbi1))
def q6f:IC:=zr [zv 6 (.mov (.c (.bool true)))]
def k0eb:IC:=(.seq qbkn (.seq (.seq qbdi (.cond (.t 20) (.seq qbkr .ret) .skip)) (.seq (.seq qbgx (.block 0 (.loop qbd7))) (.seq q6f .ret))))
@[go_sem] def s0eb:List (RV×Co):=[(.t 6,.id)]
theorem c0eb:cFun Tryz.prog 6 = some (43,k0eb,s0eb):=by kernel_rfl

def qbnh:IC:=zr [zv 0 zf]
def qbgb:IC:=zr [zv 17 (.bld [(.str []),.nils,.nils] [(0,1,(.c (.str [69,113])))]),zv 18 (.bsl 1 [((.c (.str [69,113])),.id)]),zv 19 (.bld [(.str []),.nils,.nils] [(0,1,(.c (.str [79,114,100]))),(1,1,(.t 18))]),zv 20 (.bsl 3 [((.t 17),(.agg [.id,(.sl 1),(.sl 5)])),((.t 19),(.agg [.id,(.sl 1),(.sl 5)]))]),zv 21 (.bld [(.str []),(.str []),(.int .i64 0),.nils] [(0,1,(.c (.str [69,113])))]),zv 22 (.bsl 4 [((.t 21),(.agg [.id,.id,.id,(.sl 3)]))]),zv 23 (.bld [(.str []),(.str []),(.int .i64 0),.nils] [(0,1,(.c (.str [69,113]))),(1,1,(.c (.str [76]))),(2,1,(zc 1)),(3,1,(.t 22))]),zv 24 (.bld [(.str []),(.str []),(.int .i64 0),.nils] [(0,1,(.c (.str [69,113]))),(1,1,(.c (.str [73,110,116])))]),zv 25 (.bsl 4 [((.t 23),(.agg [.id,.id,.id,(.sl 4)])),((.t 24),(.agg [.id,.id,.id,(.sl 4)]))]),zv 26 (.bld [.nils,.nils,.nils] [(1,1,(.t 20)),(2,1,(.t 25))]),zi 1 (.alo [.nils,.nils,.nils]),zn (.st 3 (.agg [(.sl 3),(.sl 3),(.sl 4)]) (.t 1) (.t 26))]
def qbrd:IC:=zr [zi 28 (zk 22 [((.c (.str [76,32,73,110,116])),.id)]),zm 27 28,zv 29 (zx 27 0),zv 30 (zx 27 1),zi 2 (.alo [(.str []),(.int .i64 0),.nils]),zn (.st 3 (.agg [.id,.id,(.sl 3)]) (.t 2) (.t 29)),zm 3 30]
def qbma:IC:=zr [zi 32 (zk 22 [((.c (.str [76,32,97])),.id)]),zm 31 32,zv 33 (zx 31 0),zv 34 (zx 31 1),zi 4 (.alo [(.str []),(.int .i64 0),.nils]),zn (.st 3 (.agg [.id,.id,(.sl 3)]) (.t 4) (.t 33)),zm 5 34]
def qbj1:IC:=zr [zv 36 (zl 3 1),zv 37 (zl 3 2),zv 38 (.bld [(.str []),(.str []),(.int .i64 0),.nils] [(0,1,(.c (.str [69,113]))),(1,3,(.t 37))]),zi 39 (zk 8 [((.t 36),(.agg [(.sl 3),(.sl 3),(.sl 4)])),((.c .nils),(.sl 4)),((.t 38),(.agg [.id,.id,.id,(.sl 3)]))]),zm 35 39,zv 40 (zx 35 0),zv 41 (zx 35 1),zi 6 (.alo [(.int .i64 0),(.int .i64 0),.nils,.nils]),zn (.st 4 (.agg [.id,.id,(.sl 3),(.sl 4)]) (.t 6) (.t 40)),zm 7 41]
def qbp4:IC:=zr [zv 43 (zl 3 1),zv 44 (.bld [(.str []),(.str []),(.int .i64 0),.nils] [(0,1,(.c (.str [79,114,100])))]),zv 45 (.bsl 4 [((.t 44),(.agg [.id,.id,.id,(.sl 3)]))]),zv 46 (zl 3 4),zv 47 (.bld [(.str []),(.str []),(.int .i64 0),.nils] [(0,1,(.c (.str [69,113]))),(1,3,(.t 46))]),zi 48 (zk 8 [((.t 43),(.agg [(.sl 3),(.sl 3),(.sl 4)])),((.t 45),(.sl 4)),((.t 47),(.agg [.id,.id,.id,(.sl 3)]))]),zm 42 48,zv 49 (zx 42 0),zv 50 (zx 42 1),zi 8 (.alo [(.int .i64 0),(.int .i64 0),.nils,.nils]),zn (.st 4 (.agg [.id,.id,(.sl 3),(.sl 4)]) (.t 8) (.t 49)),zm 9 50]
def qbcq:IC:=zr [zv 52 (zl 3 1),zv 53 (zl 3 4),zv 54 (.bld [(.str []),(.str []),(.int .i64 0),.nils] [(0,1,(.c (.str [69,113]))),(1,3,(.t 53))]),zi 55 (zk 8 [((.t 52),(.agg [(.sl 3),(.sl 3),(.sl 4)])),((.c .nils),(.sl 4)),((.t 54),(.agg [.id,.id,.id,(.sl 3)]))]),zm 51 55,zv 56 (zx 51 0),zv 57 (zx 51 1),zi 10 (.alo [(.int .i64 0),(.int .i64 0),.nils,.nils]),zn (.st 4 (.agg [.id,.id,(.sl 3),(.sl 4)]) (.t 10) (.t 56)),zm 11 57]
def qbeb:IC:=zr [zv 59 (zl 3 1),zv 60 (.bld [(.str []),(.str []),(.int .i64 0),.nils] [(0,1,(.c (.str [79,114,100])))]),zv 61 (.bsl 4 [((.t 60),(.agg [.id,.id,.id,(.sl 3)]))]),zv 62 (.bld [(.str []),(.str []),(.int .i64 0),.nils] [(0,1,(.c (.str [69,113])))]),zi 63 (zk 23 [((.t 59),(.agg [(.sl 3),(.sl 3),(.sl 4)])),((.t 61),(.sl 4)),((.t 62),(.agg [.id,.id,.id,(.sl 3)]))]),zm 58 63,zv 64 (zx 58 0),zv 65 (zx 58 1),zi 12 (.alo [(.int .i64 0),(.int .i64 0),.nils,.nils]),zn (.st 4 (.agg [.id,.id,(.sl 3),(.sl 4)]) (.t 12) (.t 64)),zm 13 65]
def qbhv:IC:=zr [zv 67 (zl 3 1),zv 68 (zl 3 2),zv 69 (.bld [(.str []),(.str []),(.int .i64 0),.nils] [(0,1,(.c (.str [69,113]))),(1,3,(.t 68))]),zv 70 (zl 3 4),zv 71 (.bld [(.str []),(.str []),(.int .i64 0),.nils] [(0,1,(.c (.str [69,113]))),(1,3,(.t 70))]),zv 72 (.bsl 4 [((.t 69),(.agg [.id,.id,.id,(.sl 3)])),((.t 71),(.agg [.id,.id,.id,(.sl 3)]))]),zi 73 (zk 24 [((.t 67),(.agg [(.sl 3),(.sl 3),(.sl 4)])),((.c .nils),(.sl 4)),((.t 72),(.sl 4))]),zm 66 73,zv 74 (zx 66 0),zv 75 (zx 66 1),zv 76 (zx 66 2),zm 14 74,zm 15 75,zm 16 76]
def qbrl:IC:=zr [zv 77 (zl 4 6),zi 78 (zk 25 [((.t 77),(.agg [.id,.id,(.sl 3),(.sl 4)]))]),zv 79 (zq (.t 78) (.c (.str [64,48,40,64,49,41]))),zm 80 79,zw 80 true 81 (zo 7),zw 80 true 82 (zq (.t 81) (zc 0)),zv 83 (.pick (.t 80) (.t 82) (.c (.bool false))),zm 84 83,zw 84 true 85 (zl 4 8),zj 84 true 86 (zk 25 [((.t 85),(.agg [.id,.id,(.sl 3),(.sl 4)]))]),zw 84 true 87 (zq (.t 86) (.c (.str [64,48,40,35,48,46,48,41]))),zv 88 (.pick (.t 84) (.t 87) (.c (.bool false))),zm 89 88,zw 89 true 90 (zo 9),zw 89 true 91 (zq (.t 90) (zc 0)),zv 92 (.pick (.t 89) (.t 91) (.c (.bool false))),zm 93 92,zw 93 true 94 (zo 11),zw 93 true 95 (zq (.t 94) (zc 16)),zv 96 (.pick (.t 93) (.t 95) (.c (.bool false))),zm 97 96,zw 97 true 98 (zo 13),zv 99 (.pick (.t 97) (.t 98) (.c (.bool false))),zm 100 99,zw 100 true 101 (zo 14),zw 100 true 102 (.len false (.t 101)),zw 100 true 103 (zq (.t 102) (zc 0)),zv 104 (.pick (.t 100) (.t 103) (.c (.bool false))),zm 105 104,zw 105 true 106 (zo 15),zw 105 true 107 (zq (.t 106) (zc 1)),zv 108 (.pick (.t 105) (.t 107) (.c (.bool false))),zm 109 108,zw 109 true 110 (zo 16),zw 109 true 111 (zq (.t 110) (zc 16)),zv 112 (.pick (.t 109) (.t 111) (.c (.bool false))),zm 113 112,zw 113 true 114 (zl 3 1),zj 113 true 115 (zk 17 [((.t 114),(.agg [(.sl 3),(.sl 3),(.sl 4)])),((.c .nils),(.sl 4)),((.c .nils),(.sl 4))]),zv 116 (.pick (.t 113) (.t 115) (.c (.bool false))),zm 117 116,zw 117 true 118 (zl 3 1),zw 117 true 119 (.bld [(.str []),(.str []),(.int .i64 0),.nils] [(0,1,(.c (.str [69,113])))]),zw 117 true 120 (.bsl 4 [((.t 119),(.agg [.id,.id,.id,(.sl 3)]))]),zj 117 true 121 (zk 17 [((.t 118),(.agg [(.sl 3),(.sl 3),(.sl 4)])),((.c .nils),(.sl 4)),((.t 120),(.sl 4))]),zw 117 true 122 (.un .not (.t 121)),zv 123 (.pick (.t 117) (.t 122) (.c (.bool false))),zm 0 123]
def k0db:IC:=(.seq qbnh (.seq qbgb (.seq qbrd (.seq qbma (.seq qbj1 (.seq qbp4 (.seq qbcq (.seq qbeb (.seq qbhv (.seq qbrl .ret))))))))))
@[go_sem] def s0db:List (RV×Co):=[(.t 0,.id)]
theorem c0db:cFun Tryz.prog 7 = some (124,k0db,s0db):=by kernel_rfl

def qber:IC:=zr [zi 3 (.box (.t 0)),zi 5 (.box (.t 2)),zi 6 (.alo [(.int .i64 0),(.int .i64 0),.nils,.nils]),zv 7 (.mov (zc 0))]
def qbho:IC:=zr [zv 8 (zl 4 5),zi 9 (zk 26 [((.t 8),(.agg [.id,.id,.id,(.sl 3)]))]),zm 10 9,zw 10 false 11 (zo 1),zj 10 false 12 (zk 27 [((.t 11),(.sl 4)),((.c (.fn 26 [] [])),.id)]),zv 13 (.pick (.t 10) (.c (.bool true)) (.t 12)),zm 14 13,zw 14 false 15 (zl 3 3),zj 14 false 16 (zk 28 [((.t 15),(.agg [(.sl 3),(.sl 3),(.sl 4)]))]),zw 14 false 17 (.un .not (.t 16)),zv 18 (.pick (.t 14) (.c (.bool true)) (.t 17))]
def qbi2:IC:=zr [zv 19 (.bld [(.int .i64 0),(.int .i64 0),.nils,.nils] []),zn (.st 4 (.agg [.id,.id,(.sl 3),(.sl 4)]) (.t 6) (.t 19)),zv 7 (.mov (zc 1))]
def qbkv:IC:=zr [zv 20 (zl 3 3),zm 21 1,zv 22 (zl 4 5),zi 23 (zk 29 [((.t 20),(.agg [(.sl 3),(.sl 3),(.sl 4)])),((.t 21),(.sl 4)),((.t 22),(.agg [.id,.id,.id,(.sl 3)]))]),zv 24 (zx 23 0),zv 25 (zx 23 1),zn (.st 4 (.agg [.id,.id,(.sl 3),(.sl 4)]) (.t 6) (.t 24)),zm 7 25]
def k0dg:IC:=(.seq qber (.seq (.seq qbho (.cond (.t 18) (.seq qbi2 .ret) .skip)) (.seq qbkv .ret)))
@[go_sem] def s0dg:List (RV×Co):=[(.c true 4 6,(.agg [.id,.id,(.sl 3),(.sl 4)])),(.t 7,.id)]
theorem c0dg:cFun Tryz.prog 8 = some (26,k0dg,s0dg):=by kernel_rfl

def qbog:IC:=zr [zv 2 zf]
def qbsj:IC:=zr [zv 3 (.mov (zc 0))]
def qbhz:IC:=zr [zm 4 3,zm 5 0,zv 6 (.len false (.t 5)),zv 7 (.bin .lss .no (.t 4) (.t 6))]
def qbsg:IC:=zr [zm 10 0,zm 11 3,zv 12 (.iad 4 (.t 10) (.t 11)),zv 13 (zl 4 12),zi 14 (zk 13 [((.t 13),(.agg [.id,.id,.id,(.sl 3)]))]),zv 15 (.un .not (.t 14))]
def qbfz:IC:=zr [zv 2 zf]
def qbde:IC:=zr [zm 8 3,zv 9 (.bin .add .no (.t 8) (zc 1)),zm 3 9]
def qbl8:IC:=(.seq (.seq qbhz (.cond (.t 7) .skip (.exit 0))) (.seq (.block 1 (.seq qbsg (.cond (.t 15) (.seq qbfz .ret) .skip))) qbde))
def qbnc:IC:=zr [zv 2 (.mov (.c (.bool true)))]
def k0cz:IC:=(.seq qbog (.seq (.seq qbsj (.block 0 (.loop qbl8))) (.seq qbnc .ret)))
@[go_sem] def s0cz:List (RV×Co):=[(.t 2,.id)]
theorem c0cz:cFun Tryz.prog 9 = some (16,k0cz,s0cz):=by kernel_rfl

def qbfn:IC:=zr [zi 1 (.box (.t 0)),zv 2 zf]
def qbnu:IC:=zr [zv 3 (zl 3 1),zi 4 (zk 11 [((.t 3),(.agg [.id,.id,(.sl 3)]))]),zv 5 (.bin .leq .no (.t 4) (zc 4096)),zm 6 5,zw 6 true 7 (zl 3 1),zj 6 true 8 (zk 21 [((.t 7),(.agg [.id,.id,(.sl 3)]))]),zw 6 true 9 (.bin .leq .no (.t 8) (zc 100)),zv 10 (.pick (.t 6) (.t 9) (.c (.bool false))),zm 11 10,zw 11 true 12 (zl 3 1),zj 11 true 13 (zk 30 [((.t 12),(.agg [.id,.id,(.sl 3)]))]),zv 14 (.pick (.t 11) (.t 13) (.c (.bool false))),zm 2 14]
def k0bs:IC:=(.seq qbfn (.seq qbnu .ret))
@[go_sem] def s0bs:List (RV×Co):=[(.t 2,.id)]
theorem c0bs:cFun Tryz.prog 10 = some (15,k0bs,s0bs):=by kernel_rfl

def qbn9:IC:=zr [zi 1 (.box (.t 0)),zv 2 (.mov (zc 0))]
def qbrm:IC:=zr [zv 3 (.mov (zc 1))]
def qbta:IC:=zr [zv 4 (.mov (zc 0))]
def qbsh:IC:=zr [zm 5 4,zv 6 (zd 1 2),zv 7 (zg 1 6),zv 8 (.len false (.t 7)),zv 9 (.bin .lss .no (.t 5) (.t 8))]
def qbnj:IC:=zr [zm 12 3,zv 13 (zd 1 2),zv 14 (zg 1 13),zm 15 4,zv 16 (.iad 3 (.t 14) (.t 15)),zv 17 (zl 3 16),zi 18 (zk 11 [((.t 17),(.agg [.id,.id,(.sl 3)]))]),zv 19 (.bin .add .no (.t 12) (.t 18)),zm 3 19]
def qbj2:IC:=zr [zm 10 4,zv 11 (.bin .add .no (.t 10) (zc 1)),zm 4 11]
def qbl4:IC:=(.seq (.seq qbsh (.cond (.t 9) .skip (.exit 0))) (.seq (.block 1 qbnj) qbj2))
def qbou:IC:=zr [zm 20 3,zm 2 20]
def k0bn:IC:=(.seq qbn9 (.seq qbrm (.seq (.seq qbta (.block 0 (.loop qbl4))) (.seq qbou .ret))))
@[go_sem] def s0bn:List (RV×Co):=[(.t 2,.id)]
theorem c0bn:cFun Tryz.prog 11 = some (21,k0bn,s0bn):=by kernel_rfl

def qbra:IC:=zr [zi 2 (.box (.t 0)),zi 3 (.box (.t 1)),zi 4 (.alo [(.str []),(.str []),(.int .i64 0),.nils])]
def qbib:IC:=.drw [zp (zv 5 (zd 2 0)),zp (zv 6 (zg 1 5)),zp (zv 7 (zd 2 1)),zp (zv 8 (zl 3 7)),zp (zv 9 (zl 3 3)),(zi 10 (zk 31 [((.t 8),(.agg [.id,.id,(.sl 3)])),((.t 9),(.agg [.id,.id,(.sl 3)]))]),[1]),(zv 11 (.bld [(.str []),(.str []),(.int .i64 0),.nils] [(0,1,(.t 6)),(1,3,(.t 10))]),[]),(zn (.st 4 (.agg [.id,.id,.id,(.sl 3)]) (.t 4) (.t 11)),[])]
def k0eg:IC:=(.seq qbra (.seq qbib .ret))
@[go_sem] def s0eg:List (RV×Co):=[(.c true 4 4,(.agg [.id,.id,.id,(.sl 3)]))]
theorem c0eg:cFun Tryz.prog 12 = some (12,k0eg,s0eg):=by kernel_rfl

def qboh:IC:=zr [zi 1 (.box (.t 0)),zv 2 zf]
def qbt5:IC:=zr [zv 3 (zd 1 0),zv 4 (zg 1 3),zi 5 (zk 32 [zI 4]),zm 6 5,zw 6 true 7 (zd 1 1),zw 6 true 8 (zl 3 7),zj 6 true 9 (zk 10 [((.t 8),(.agg [.id,.id,(.sl 3)]))]),zv 10 (.pick (.t 6) (.t 9) (.c (.bool false))),zm 2 10]
def k0cy:IC:=(.seq qboh (.seq qbt5 .ret))
@[go_sem] def s0cy:List (RV×Co):=[(.t 2,.id)]
theorem c0cy:cFun Tryz.prog 13 = some (11,k0cy,s0cy):=by kernel_rfl

def qbod:IC:=zr [zi 3 (.box (.t 0)),zv 6 zf]
def qbpq:IC:=zr [zv 11 (zl 3 3),zm 12 1,zm 13 2,zi 14 (zk 24 [((.t 11),(.agg [(.sl 3),(.sl 3),(.sl 4)])),((.t 12),(.sl 4)),((.t 13),(.sl 4))]),zm 10 14,zv 15 (zx 10 0),zv 16 (zx 10 1),zv 17 (zx 10 2),zm 7 15,zm 8 16,zm 9 17]
def qbk1:IC:=zr [zm 18 9,zv 19 (zq (.t 18) (zc 0)),zm 6 19]
def k0de:IC:=(.seq qbod (.seq qbpq (.seq qbk1 .ret)))
@[go_sem] def s0de:List (RV×Co):=[(.t 6,.id)]
theorem c0de:cFun Tryz.prog 17 = some (20,k0de,s0de):=by kernel_rfl

def qbhq:IC:=zr [zv 4 zf]
def qbrr:IC:=zr [zm 6 0,zv 7 (.len false (.t 6)),zm 8 1,zv 9 (.len false (.t 8)),zv 10 (.bin .neq .no (.t 7) (.t 9))]
def qbgh:IC:=zr [zv 4 zf]
def qbt9:IC:=zr [zv 5 (.mov (zc 0))]
def qbs1:IC:=zr [zm 11 5,zm 12 0,zv 13 (.len false (.t 12)),zv 14 (.bin .lss .no (.t 11) (.t 13))]
def qbup:IC:=.drw [zp (zm 17 0),zp (zm 18 5),zp (zv 19 (.iad 4 (.t 17) (.t 18))),zp (zv 20 (zl 4 19)),zp (zm 21 1),zp (zm 22 5),zp (zv 23 (.iad 4 (.t 21) (.t 22))),zp (zv 24 (zl 4 23)),(zi 25 (zk 36 [((.t 20),(.agg [.id,.id,.id,(.sl 3)])),((.t 24),(.agg [.id,.id,.id,(.sl 3)]))]),[]),zp (zv 26 (.un .not (.t 25)))]
def qbq8:IC:=zr [zv 4 zf]
def qbqn:IC:=zr [zm 15 5,zv 16 (.bin .add .no (.t 15) (zc 1)),zm 5 16]
def qbsm:IC:=(.seq (.seq qbs1 (.cond (.t 14) .skip (.exit 0))) (.seq (.block 1 (.seq qbup (.cond (.t 26) (.seq qbq8 .ret) .skip))) qbqn))
def q87:IC:=zr [zv 4 (.mov (.c (.bool true)))]
def k0cu:IC:=(.seq qbhq (.seq (.seq qbrr (.cond (.t 10) (.seq qbgh .ret) .skip)) (.seq (.seq qbt9 (.block 0 (.loop qbsm))) (.seq q87 .ret))))
@[go_sem] def s0cu:List (RV×Co):=[(.t 4,.id)]
theorem c0cu:cFun Tryz.prog 18 = some (27,k0cu,s0cu):=by kernel_rfl

def qbt0:IC:=zr [zi 1 (.box (.t 0)),zv 2 (.mov (zc 0))]
def qbny:IC:=zr [zv 3 (zd 1 1),zv 4 (zg 1 3),zi 5 (zk 37 [((.t 4),(.sl 3))]),zv 6 (zq (.t 5) (zc 0)),zm 7 6,zw 7 false 8 (zd 1 2),zw 7 false 9 (zg 1 8),zj 7 false 10 (zk 38 [((.t 9),(.sl 4))]),zw 7 false 11 (zq (.t 10) (zc 0)),zv 12 (.pick (.t 7) (.c (.bool true)) (.t 11))]
def qbob:IC:=zr [zv 2 (.mov (zc 0))]
def qbkd:IC:=zr [zv 2 (.mov (zc 1))]
def k0ea:IC:=(.seq qbt0 (.seq (.seq qbny (.cond (.t 12) (.seq qbob .ret) .skip)) (.seq qbkd .ret)))
@[go_sem] def s0ea:List (RV×Co):=[(.t 2,.id)]
theorem c0ea:cFun Tryz.prog 19 = some (13,k0ea,s0ea):=by kernel_rfl

def qbeg:IC:=zr [zv 2 (.mov (zc 0))]
def qbua:IC:=zr [zm 5 0,zv 6 (.len false (.t 5)),zv 7 (.bin .gtr .no (.t 6) (zc 30))]
def qbem:IC:=zr [zv 2 (.mov (zc 0))]
def qbpw:IC:=zr [zv 3 (.mov (.c .nils))]
def qblf:IC:=zr [zv 4 (.mov (zc 0))]
def qbfs:IC:=zr [zm 8 4,zm 9 0,zv 10 (.len false (.t 9)),zv 11 (.bin .lss .no (.t 8) (.t 10))]
def qbo9:IC:=zr [zm 14 3,zm 15 0,zm 16 4,zv 17 (.iad 4 (.t 15) (.t 16)),zv 18 (zd 17 1),zv 19 (zl 3 18),zv 20 (.bsl 3 [((.t 19),(.agg [.id,.id,(.sl 3)]))]),zi 21 (.app 3 (.agg [(.str []),(.int .i64 0),.nils]) 48 (.sl 3) (.t 14) (.t 20)),zm 3 21]
def qbfa:IC:=zr [zm 12 4,zv 13 (.bin .add .no (.t 12) (zc 1)),zm 4 13]
def qbsl:IC:=(.seq (.seq qbfs (.cond (.t 11) .skip (.exit 0))) (.seq (.block 1 qbo9) qbfa))
def q92:IC:=zr [zm 22 3,zi 23 (zk 39 [((.t 22),(.sl 3))]),zm 2 23]
def k0cw:IC:=(.seq qbeg (.seq (.seq qbua (.cond (.t 7) (.seq qbem .ret) .skip)) (.seq qbpw (.seq (.seq qblf (.block 0 (.loop qbsl))) (.seq q92 .ret)))))
@[go_sem] def s0cw:List (RV×Co):=[(.t 2,.id)]
theorem c0cw:cFun Tryz.prog 20 = some (24,k0cw,s0cw):=by kernel_rfl

def qbpu:IC:=zr [zi 1 (.box (.t 0)),zv 2 (.mov (zc 0))]
def qbns:IC:=zr [zv 3 (.mov (zc 0))]
def qbd9:IC:=zr [zv 4 (.mov (zc 0))]
def qbg9:IC:=zr [zm 5 4,zv 6 (zd 1 2),zv 7 (zg 1 6),zv 8 (.len false (.t 7)),zv 9 (.bin .lss .no (.t 5) (.t 8))]
def qbq7:IC:=zr [zm 12 3,zv 13 (zd 1 2),zv 14 (zg 1 13),zm 15 4,zv 16 (.iad 3 (.t 14) (.t 15)),zv 17 (zl 3 16),zi 18 (zk 21 [((.t 17),(.agg [.id,.id,(.sl 3)]))]),zv 19 (.mm true (.t 12) (.t 18)),zm 3 19]
def qbdn:IC:=zr [zm 10 4,zv 11 (.bin .add .no (.t 10) (zc 1)),zm 4 11]
def qbp6:IC:=(.seq (.seq qbg9 (.cond (.t 9) .skip (.exit 0))) (.seq (.block 1 qbq7) qbdn))
def qbe8:IC:=zr [zm 20 3,zv 21 (.bin .add .no (.t 20) (zc 1)),zm 2 21]
def k0bo:IC:=(.seq qbpu (.seq qbns (.seq (.seq qbd9 (.block 0 (.loop qbp6))) (.seq qbe8 .ret))))
@[go_sem] def s0bo:List (RV×Co):=[(.t 2,.id)]
theorem c0bo:cFun Tryz.prog 21 = some (22,k0bo,s0bo):=by kernel_rfl

def qbpm:IC:=zr [zi 2 (.alo [(.str []),(.int .i64 0),.nils]),zv 3 (.mov (zc 0))]
def qbco:IC:=zr [zm 6 0,zv 7 (.bld [(.str []),(.int .i64 0),(.bool false)] [(0,1,(.t 6))]),zi 8 (.box (.t 7)),zm 4 8]
def qbmj:IC:=zr [zm 9 4,zi 10 (zk 40 [zI 9]),zi 5 (.alo [(.str []),(.int .i64 0),.nils]),zn (.st 3 (.agg [.id,.id,(.sl 3)]) (.t 5) (.t 10))]
def qbsk:IC:=zr [zm 11 4,zv 12 (.nck (.t 11)),zv 13 (zd 12 2),zv 14 (zg 1 13),zm 15 14,zw 15 false 16 (zo 4),zw 15 false 17 (.nck (.t 16)),zw 15 false 18 (zd 17 0),zw 15 false 19 (zg 1 18),zw 15 false 20 (.bin .neq .no (.t 19) (.c (.str []))),zv 21 (.pick (.t 15) (.c (.bool true)) (.t 20)),zm 22 21,zw 22 false 23 (zl 3 5),zj 22 false 24 (zk 41 [((.t 23),(.agg [.id,.id,(.sl 3)]))]),zw 22 false 25 (zo 0),zw 22 false 26 (.bin .neq .no (.t 24) (.t 25)),zv 27 (.pick (.t 22) (.c (.bool true)) (.t 26))]
def qbi7:IC:=zr [zv 28 (.bld [(.str []),(.int .i64 0),.nils] []),zn (.st 3 (.agg [.id,.id,(.sl 3)]) (.t 2) (.t 28)),zv 3 (.mov (zc 5))]
def qbjx:IC:=zr [zv 29 (zl 3 5),zn (.st 3 (.agg [.id,.id,(.sl 3)]) (.t 2) (.t 29)),zv 3 (.mov (zc 0))]
def k0ee:IC:=(.seq qbpm (.seq qbco (.seq qbmj (.seq (.seq qbsk (.cond (.t 27) (.seq qbi7 .ret) .skip)) (.seq qbjx .ret)))))
@[go_sem] def s0ee:List (RV×Co):=[(.c true 3 2,(.agg [.id,.id,(.sl 3)])),(.t 3,.id)]
theorem c0ee:cFun Tryz.prog 22 = some (30,k0ee,s0ee):=by kernel_rfl

def qbx0:IC:=zr [zi 3 (.box (.t 0)),zi 5 (.box (.t 2)),zi 6 (.alo [(.int .i64 0),(.int .i64 0),.nils,.nils]),zv 7 zf]
def qb1f:IC:=zr [zm 15 1,zv 16 (.len false (.t 15)),zv 17 (.mov (zc 0))]
def qb0o:IC:=zr [zv 18 (.bin .lss .no (.t 17) (.t 16))]
def qbvp:IC:=zr [zm 19 17,zv 20 (.iad 4 (.t 15) (.t 17)),zv 21 (zl 4 20),zi 9 (.alo [(.str []),(.str []),(.int .i64 0),.nils]),zm 8 19,zn (.st 4 (.agg [.id,.id,.id,(.sl 3)]) (.t 9) (.t 21))]
def qbve:IC:=zr [zv 22 (zd 9 1),zv 23 (zl 3 22),zv 24 (zd 5 1),zv 25 (zl 3 24),zi 26 (zk 42 [((.t 23),(.agg [.id,.id,(.sl 3)])),((.t 25),(.agg [.id,.id,(.sl 3)]))]),zv 27 (.un .not (.t 26))]
def qbv8:IC:=zr [zv 29 (zd 3 1),zv 30 (zg 1 29),zv 31 (zd 9 0),zv 32 (zg 1 31),zv 33 (zd 5 0),zv 34 (zg 1 33),zi 35 (zk 43 [((.t 30),(.sl 3)),zI 32,zI 34]),zm 28 35,zv 36 (zx 28 0),zv 37 (zx 28 1),zm 10 36,zm 11 37]
def qb25:IC:=zr [zm 38 11,zv 39 (.un .not (.t 38))]
def qb3k:IC:=zr [zm 40 8,zv 41 (.bld [(.int .i64 0),(.int .i64 0),.nils,.nils] [(0,1,(zc 1)),(1,1,(.t 40))]),zi 12 (.alo [(.int .i64 0),(.int .i64 0),.nils,.nils]),zn (.st 4 (.agg [.id,.id,(.sl 3),(.sl 4)]) (.t 12) (.t 41))]
def qb29:IC:=zr [zm 42 10,zv 43 (.len false (.t 42)),zv 44 (.mov (zc 0))]
def qbkx:IC:=zr [zv 45 (.bin .lss .no (.t 44) (.t 43))]
def qbp3:IC:=zr [zv 46 (.iad 1 (.t 42) (.t 44)),zv 47 (zg 1 46),zm 14 47]
def qbd4:IC:=zr [zm 48 14,zv 49 (zl 4 12),zv 50 (.bsl 4 [((.t 49),(.agg [.id,.id,(.sl 3),(.sl 4)]))]),zv 51 (.bld [(.int .i64 0),(.int .i64 0),.nils,.nils] [(0,1,(zc 2)),(1,1,(.t 48)),(3,1,(.t 50))]),zn (.st 4 (.agg [.id,.id,(.sl 3),(.sl 4)]) (.t 12) (.t 51))]
def qzn:IC:=zr [zv 52 (.bin .add .no (.t 44) (zc 1)),zm 44 52]
def qy8:IC:=(.seq qbkx (.seq (.cond (.t 45) .skip (.exit 2)) (.seq (.block 3 (.seq qbp3 qbd4)) qzn)))
def qbm6:IC:=zr [zv 53 (zl 4 12),zn (.st 4 (.agg [.id,.id,(.sl 3),(.sl 4)]) (.t 6) (.t 53)),zv 7 (.mov (.c (.bool true)))]
def qboi:IC:=zr [zv 54 (.bin .add .no (.t 17) (zc 1)),zm 17 54]
def qb0r:IC:=(.seq qb0o (.seq (.cond (.t 18) .skip (.exit 0)) (.seq (.block 1 (.seq qbvp (.seq (.seq qbve (.cond (.t 27) (.exit 1) .skip)) (.seq qbv8 (.seq (.seq qb25 (.cond (.t 39) (.exit 1) .skip)) (.seq qb3k (.seq (.seq qb29 (.block 2 (.loop qy8))) (.seq qbm6 .ret)))))))) qboi)))
def qbo0:IC:=zr [zv 55 (.bld [(.int .i64 0),(.int .i64 0),.nils,.nils] []),zn (.st 4 (.agg [.id,.id,(.sl 3),(.sl 4)]) (.t 6) (.t 55)),zv 7 zf]
def k0a:IC:=(.seq qbx0 (.seq (.seq qb1f (.block 0 (.loop qb0r))) (.seq qbo0 .ret)))
@[go_sem] def s0a:List (RV×Co):=[(.c true 4 6,(.agg [.id,.id,(.sl 3),(.sl 4)])),(.t 7,.id)]
theorem c0a:cFun Tryz.prog 23 = some (56,k0a,s0a):=by kernel_rfl

def qbs0:IC:=zr [zi 3 (.box (.t 0)),zv 6 (.mov (.c .nils)),zv 7 (.mov (zc 0)),zv 8 (.mov (zc 0))]
def qbo8:IC:=zr [zv 9 (.mov (.c .nils))]
def qbnk:IC:=zr [zm 14 2,zv 15 (.len false (.t 14)),zv 16 (.mov (zc 0))]
def qbjh:IC:=zr [zv 17 (.bin .lss .no (.t 16) (.t 15))]
def qblk:IC:=zr [zm 18 16,zv 19 (.iad 4 (.t 14) (.t 16)),zv 20 (zl 4 19),zi 11 (.alo [(.str []),(.str []),(.int .i64 0),.nils]),zm 10 18,zn (.st 4 (.agg [.id,.id,.id,(.sl 3)]) (.t 11) (.t 20))]
def qbru:IC:=zr [zv 22 (zl 3 3),zm 23 1,zv 24 (zl 4 11),zi 25 (zk 8 [((.t 22),(.agg [(.sl 3),(.sl 3),(.sl 4)])),((.t 23),(.sl 4)),((.t 24),(.agg [.id,.id,.id,(.sl 3)]))]),zm 21 25,zv 26 (zx 21 0),zv 27 (zx 21 1),zi 12 (.alo [(.int .i64 0),(.int .i64 0),.nils,.nils]),zn (.st 4 (.agg [.id,.id,(.sl 3),(.sl 4)]) (.t 12) (.t 26)),zm 13 27]
def qbka:IC:=zr [zm 28 13,zv 29 (.bin .neq .no (.t 28) (zc 0))]
def qbml:IC:=zr [zm 30 10,zm 31 13,zv 6 (.mov (.c .nils)),zm 7 30,zm 8 31]
def qbna:IC:=zr [zm 32 9,zv 33 (zl 4 12),zv 34 (.bsl 4 [((.t 33),(.agg [.id,.id,(.sl 3),(.sl 4)]))]),zi 35 (.app 4 (.agg [(.int .i64 0),(.int .i64 0),.nils,.nils]) 64 (.sl 4) (.t 32) (.t 34)),zm 9 35]
def qbat:IC:=zr [zv 36 (.bin .add .no (.t 16) (zc 1)),zm 16 36]
def qbq2:IC:=(.seq qbjh (.seq (.cond (.t 17) .skip (.exit 0)) (.seq (.block 1 (.seq qblk (.seq qbru (.seq (.seq qbka (.cond (.t 29) (.seq qbml .ret) .skip)) qbna)))) qbat)))
def qba6:IC:=zr [zm 37 9,zm 6 37,zv 7 (.mov (zc 0)),zv 8 (.mov (zc 0))]
def k0dd:IC:=(.seq qbs0 (.seq qbo8 (.seq (.seq qbnk (.block 0 (.loop qbq2))) (.seq qba6 .ret))))
@[go_sem] def s0dd:List (RV×Co):=[(.t 6,(.sl 4)),(.t 7,.id),(.t 8,.id)]
theorem c0dd:cFun Tryz.prog 24 = some (38,k0dd,s0dd):=by kernel_rfl

def qbjd:IC:=zr [zi 1 (.box (.t 0)),zv 2 (.mov (.c (.str [])))]
def qbl3:IC:=zr [zv 8 (zd 1 0),zv 9 (zg 1 8),zv 10 (zq (.t 9) (zc 1)),zm 7 10]
def qtd:IC:=zr [zv 11 (zd 1 1),zv 12 (zg 1 11),zi 13 (zk 44 [zI 12]),zv 14 (.bin .add .no (.c (.str [35])) (.t 13)),zm 2 14]
def qbn1:IC:=zr [zv 16 (zd 1 0),zv 17 (zg 1 16),zv 18 (zq (.t 17) (zc 2)),zm 19 18,zw 19 true 20 (zd 1 3),zw 19 true 21 (zg 1 20),zw 19 true 22 (.len false (.t 21)),zw 19 true 23 (zq (.t 22) (zc 1)),zv 24 (.pick (.t 19) (.t 23) (.c (.bool false))),zm 15 24]
def qta:IC:=.drw [zp (zv 25 (zd 1 3)),zp (zv 26 (zg 1 25)),zp (zv 27 (.iad 4 (.t 26) (zc 0))),zp (zv 28 (zl 4 27)),(zi 29 (zk 25 [((.t 28),(.agg [.id,.id,(.sl 3),(.sl 4)]))]),[]),(zv 30 (.bin .add .no (.t 29) (.c (.str [46]))),[]),zp (zv 31 (zd 1 1)),(zv 32 (zg 1 31),[4]),(zi 33 (zk 44 [zI 32]),[]),zp (zv 34 (.bin .add .no (.t 30) (.t 33))),zp (zm 2 34)]
def qbhp:IC:=zr [zv 36 (zd 1 0),zv 37 (zg 1 36),zv 38 (.bin .neq .no (.t 37) (zc 3)),zm 35 38]
def qtz:IC:=zr [zv 2 (.mov (.c (.str [63])))]
def qzd:IC:=zr [zv 39 (zd 1 1),zv 40 (zg 1 39),zi 41 (zk 44 [zI 40]),zv 42 (.bin .add .no (.c (.str [64])) (.t 41)),zm 3 42]
def qbnr:IC:=zr [zv 43 (zd 1 3),zv 44 (zg 1 43),zv 45 (.len false (.t 44)),zv 46 (zq (.t 45) (zc 0))]
def q0x:IC:=zr [zm 47 3,zm 2 47]
def qvu:IC:=zr [zv 48 (zd 1 3),zv 49 (zg 1 48),zv 50 (.len false (.t 49)),zi 51 (.mks 1 (.str []) 16 (.t 50) (.t 50)),zm 4 51]
def qbag:IC:=zr [zv 52 (zd 1 3),zv 53 (zg 1 52),zv 54 (.len false (.t 53)),zv 55 (.mov (zc 0))]
def q70:IC:=zr [zv 56 (.bin .lss .no (.t 55) (.t 54))]
def q72:IC:=zr [zm 57 55,zv 58 (.iad 4 (.t 53) (.t 55)),zv 59 (zl 4 58),zi 6 (.alo [(.int .i64 0),(.int .i64 0),.nils,.nils]),zm 5 57,zn (.st 4 (.agg [.id,.id,(.sl 3),(.sl 4)]) (.t 6) (.t 59))]
def q96:IC:=zr [zm 60 4,zm 61 5,zv 62 (zl 4 6),zi 63 (zk 25 [((.t 62),(.agg [.id,.id,(.sl 3),(.sl 4)]))]),zv 64 (.iad 1 (.t 60) (.t 61)),zn (.st 1 .id (.t 64) (.t 63))]
def qbbh:IC:=zr [zv 65 (.bin .add .no (.t 55) (zc 1)),zm 55 65]
def q60:IC:=(.seq q70 (.seq (.cond (.t 56) .skip (.exit 1)) (.seq (.block 2 (.seq q72 q96)) qbbh)))
def q7m:IC:=zr [zm 66 3,zv 67 (.bin .add .no (.t 66) (.c (.str [40]))),zm 68 4,zi 69 (zk 45 [((.t 68),(.sl 1)),((.c (.str [44,32])),.id)]),zv 70 (.bin .add .no (.t 67) (.t 69)),zv 71 (.bin .add .no (.t 70) (.c (.str [41]))),zm 2 71]
def k0dc:IC:=(.seq qbjd (.seq (.block 0 (.seq qbl3 (.cond (.t 7) (.seq qtd .ret) (.seq qbn1 (.cond (.t 15) (.seq qta .ret) (.seq qbhp (.cond (.t 35) (.seq qtz .ret) .skip))))))) (.seq qzd (.seq (.seq qbnr (.cond (.t 46) (.seq q0x .ret) .skip)) (.seq qvu (.seq (.seq qbag (.block 1 (.loop q60))) (.seq q7m .ret)))))))
@[go_sem] def s0dc:List (RV×Co):=[(.t 2,.id)]
theorem c0dc:cFun Tryz.prog 25 = some (72,k0dc,s0dc):=by kernel_rfl

def qbnl:IC:=zr [zi 1 (.box (.t 0)),zv 2 zf]
def qbqa:IC:=zr [zv 3 (zl 4 1),zi 4 (zk 46 [((.t 3),(.agg [.id,.id,.id,(.sl 3)]))]),zv 5 (.un .not (.t 4)),zm 2 5]
def k0dm:IC:=(.seq qbnl (.seq qbqa .ret))
@[go_sem] def s0dm:List (RV×Co):=[(.t 2,.id)]
theorem c0dm:cFun Tryz.prog 26 = some (6,k0dm,s0dm):=by kernel_rfl

def qbt7:IC:=zr [zv 4 zf]
def qbt3:IC:=zr [zm 5 0,zm 6 1,zi 7 (zk 47 [((.t 5),(.sl 4)),zI 6]),zv 8 (.bin .geq .no (.t 7) (zc 0)),zm 4 8]
def k0do:IC:=(.seq qbt7 (.seq qbt3 .ret))
@[go_sem] def s0do:List (RV×Co):=[(.t 4,.id)]
theorem c0do:cFun Tryz.prog 27 = some (9,k0do,s0do):=by kernel_rfl

def qbrt:IC:=zr [zi 1 (.box (.t 0)),zv 2 zf]
def qbiw:IC:=zr [zv 6 (zd 1 1),zv 7 (zg 1 6),zi 8 (zk 48 [((.t 7),(.sl 3))]),zm 5 8,zv 9 (zx 5 0),zv 10 (zx 5 1),zm 3 9,zm 4 10]
def qbdo:IC:=zr [zm 11 4,zv 12 (zq (.t 11) (zc 0)),zm 13 12,zw 13 true 14 (zd 1 2),zw 13 true 15 (zg 1 14),zj 13 true 16 (zk 49 [((.t 15),(.sl 4)),((.c (.fn 50 [] [])),.id)]),zw 13 true 17 (.un .not (.t 16)),zv 18 (.pick (.t 13) (.t 17) (.c (.bool false))),zm 2 18]
def k0ds:IC:=(.seq qbrt (.seq qbiw (.seq qbdo .ret)))
@[go_sem] def s0ds:List (RV×Co):=[(.t 2,.id)]
theorem c0ds:cFun Tryz.prog 28 = some (19,k0ds,s0ds):=by kernel_rfl

def qbqi:IC:=zr [zi 3 (.box (.t 0)),zi 5 (.box (.t 2)),zi 6 (.alo [(.int .i64 0),(.int .i64 0),.nils,.nils]),zi 7 (.alo [(.int .i64 0)])]
def qbhg:IC:=.dfr [zv 8 (.mfn 52 [] [(.t 6),(.t 7)])] (.t 8)
def qbcx:IC:=zr [zv 10 (zl 3 3),zm 11 1,zv 12 (zl 4 5),zi 13 (zk 53 [((.t 10),(.agg [(.sl 3),(.sl 3),(.sl 4)])),((.t 11),(.sl 4)),((.t 12),(.agg [.id,.id,.id,(.sl 3)]))]),zm 9 13,zv 14 (zx 9 0),zv 15 (zx 9 1),zn (.st 4 (.agg [.id,.id,(.sl 3),(.sl 4)]) (.t 6) (.t 14))]
def q1w:IC:=zr [zv 16 (zl 4 6),zn (.st 4 (.agg [.id,.id,(.sl 3),(.sl 4)]) (.t 6) (.t 16)),zn (.st 1 .id (.t 7) (zc 0))]
def k0df:IC:=(.seq qbqi (.seq qbhg (.seq qbcx (.seq q1w .ret))))
@[go_sem] def s0df:List (RV×Co):=[(.c true 4 6,(.agg [.id,.id,(.sl 3),(.sl 4)])),(.c false 1 7,.id)]
theorem c0df:cFun Tryz.prog 29 = some (17,k0df,s0df):=by kernel_rfl

def qbmf:IC:=zr [zi 1 (.box (.t 0)),zv 2 zf]
def qbdy:IC:=zr [zv 3 (.mov (zc 0))]
def qbso:IC:=zr [zm 5 3,zv 6 (zd 1 2),zv 7 (zg 1 6),zv 8 (.len false (.t 7)),zv 9 (.bin .lss .no (.t 5) (.t 8))]
def qbsa:IC:=zr [zv 12 (zd 1 2),zv 13 (zg 1 12),zm 14 3,zv 15 (.iad 3 (.t 13) (.t 14)),zv 16 (zl 3 15),zi 17 (zk 30 [((.t 16),(.agg [.id,.id,(.sl 3)]))]),zv 18 (.un .not (.t 17))]
def qbki:IC:=zr [zv 2 zf]
def qbn8:IC:=zr [zm 10 3,zv 11 (.bin .add .no (.t 10) (zc 1)),zm 3 11]
def qbku:IC:=(.seq (.seq qbso (.cond (.t 9) .skip (.exit 0))) (.seq (.block 1 (.seq qbsa (.cond (.t 18) (.seq qbki .ret) .skip))) qbn8))
def qbdl:IC:=zr [zv 19 (zd 1 2),zv 20 (zg 1 19),zv 21 (.len false (.t 20)),zm 4 21]
def qbqt:IC:=zr [zv 23 (zd 1 0),zv 24 (zg 1 23),zv 25 (zq (.t 24) (.c (.str []))),zm 22 25]
def q5g:IC:=zr [zm 26 4,zv 27 (zq (.t 26) (zc 0)),zm 2 27]
def q6n:IC:=zr [zv 29 (zd 1 0),zv 30 (zg 1 29),zv 31 (zq (.t 30) (.c (.str [45,62]))),zm 28 31]
def q6i:IC:=zr [zm 32 4,zv 33 (zq (.t 32) (zc 2)),zm 34 33,zw 34 true 35 (zd 1 1),zw 34 true 36 (zg 1 35),zw 34 true 37 (zq (.t 36) (zc 0)),zv 38 (.pick (.t 34) (.t 37) (.c (.bool false))),zm 2 38]
def q68:IC:=zr [zv 40 (zd 1 0),zv 41 (zg 1 40),zi 42 (zk 54 [zI 41]),zm 39 42]
def q8f:IC:=zr [zm 43 4,zv 44 (zq (.t 43) (zc 0)),zm 45 44,zw 45 true 46 (zd 1 1),zw 45 true 47 (zg 1 46),zw 45 true 48 (zq (.t 47) (zc 0)),zv 49 (.pick (.t 45) (.t 48) (.c (.bool false))),zm 2 49]
def q81:IC:=zr [zv 50 (zd 1 0),zv 51 (zg 1 50),zi 52 (zk 32 [zI 51]),zm 53 52,zw 53 true 54 (zd 1 1),zw 53 true 55 (zg 1 54),zw 53 true 56 (zq (.t 55) (zc 0)),zv 57 (.pick (.t 53) (.t 56) (.c (.bool false))),zm 2 57]
def k0bp:IC:=(.seq qbmf (.seq (.seq qbdy (.block 0 (.loop qbku))) (.seq qbdl (.seq (.block 2 (.seq qbqt (.cond (.t 22) (.seq q5g .ret) (.seq q6n (.cond (.t 28) (.seq q6i .ret) (.seq q68 (.cond (.t 39) (.seq q8f .ret) .skip))))))) (.seq q81 .ret)))))
@[go_sem] def s0bp:List (RV×Co):=[(.t 2,.id)]
theorem c0bp:cFun Tryz.prog 30 = some (58,k0bp,s0bp):=by kernel_rfl

def qbdh:IC:=zr [zi 2 (.box (.t 0)),zi 3 (.box (.t 1)),zi 4 (.alo [(.str []),(.int .i64 0),.nils])]
def qbto:IC:=zr [zv 7 (zd 2 0),zv 8 (zg 1 7),zv 9 (zq (.t 8) (.c (.str []))),zm 10 9,zw 10 true 11 (zd 2 1),zw 10 true 12 (zg 1 11),zw 10 true 13 (zq (.t 12) (zc 0)),zv 14 (.pick (.t 10) (.t 13) (.c (.bool false)))]
def qbl0:IC:=zr [zv 15 (zl 3 3),zn (.st 3 (.agg [.id,.id,(.sl 3)]) (.t 4) (.t 15))]
def qbmc:IC:=zr [zv 5 (.mov (.c .nils))]
def qbcy:IC:=zr [zv 6 (.mov (zc 0))]
def qbrg:IC:=zr [zm 16 6,zv 17 (zd 2 2),zv 18 (zg 1 17),zv 19 (.len false (.t 18)),zv 20 (.bin .lss .no (.t 16) (.t 19))]
def qbgc:IC:=.drw [zp (zm 23 5),zp (zv 24 (zd 2 2)),zp (zv 25 (zg 1 24)),zp (zm 26 6),zp (zv 27 (.iad 3 (.t 25) (.t 26))),zp (zv 28 (zl 3 27)),zp (zv 29 (zl 3 3)),(zi 30 (zk 31 [((.t 28),(.agg [.id,.id,(.sl 3)])),((.t 29),(.agg [.id,.id,(.sl 3)]))]),[]),(zv 31 (.bsl 3 [((.t 30),(.agg [.id,.id,(.sl 3)]))]),[]),(zi 32 (.app 3 (.agg [(.str []),(.int .i64 0),.nils]) 48 (.sl 3) (.t 23) (.t 31)),[]),zp (zm 5 32)]
def qbpv:IC:=zr [zm 21 6,zv 22 (.bin .add .no (.t 21) (zc 1)),zm 6 22]
def qbg6:IC:=(.seq (.seq qbrg (.cond (.t 20) .skip (.exit 0))) (.seq (.block 1 qbgc) qbpv))
def q93:IC:=zr [zm 33 5,zv 34 (zd 2 2),zn (.st 1 (.sl 3) (.t 34) (.t 33))]
def q7n:IC:=zr [zv 35 (zl 3 2),zn (.st 3 (.agg [.id,.id,(.sl 3)]) (.t 4) (.t 35))]
def k0ef:IC:=(.seq qbdh (.seq (.seq qbto (.cond (.t 14) (.seq qbl0 .ret) .skip)) (.seq qbmc (.seq (.seq qbcy (.block 0 (.loop qbg6))) (.seq q93 (.seq q7n .ret))))))
@[go_sem] def s0ef:List (RV×Co):=[(.c true 3 4,(.agg [.id,.id,(.sl 3)]))]
theorem c0ef:cFun Tryz.prog 31 = some (36,k0ef,s0ef):=by kernel_rfl

def qbm5:IC:=zr [zv 2 zf]
def qbtm:IC:=zr [zm 3 0,zv 4 (.bin .neq .no (.t 3) (.c (.str []))),zm 5 4,zw 5 true 6 (zo 0),zw 5 true 7 (.idx (.t 6) (zc 0)),zj 5 true 8 (zk 55 [zI 7]),zv 9 (.pick (.t 5) (.t 8) (.c (.bool false))),zm 10 9,zw 10 true 11 (zo 0),zj 10 true 12 (zk 56 [zI 11]),zv 13 (.pick (.t 10) (.t 12) (.c (.bool false))),zm 2 13]
def k0cp:IC:=(.seq qbm5 (.seq qbtm .ret))
@[go_sem] def s0cp:List (RV×Co):=[(.t 2,.id)]
theorem c0cp:cFun Tryz.prog 32 = some (14,k0cp,s0cp):=by kernel_rfl

def qbts:IC:=zr [zi 2 (.box (.t 0)),zi 3 (.box (.t 1)),zv 4 zf]
def qbs2:IC:=zr [zv 5 (zd 2 0),zv 6 (zg 1 5),zv 7 (zd 3 0),zv 8 (zg 1 7),zv 9 (zq (.t 6) (.t 8)),zm 10 9,zw 10 true 11 (zd 2 1),zw 10 true 12 (zl 3 11),zw 10 true 13 (zd 3 1),zw 10 true 14 (zl 3 13),zj 10 true 15 (zk 61 [((.t 12),(.agg [.id,.id,(.sl 3)])),((.t 14),(.agg [.id,.id,(.sl 3)]))]),zv 16 (.pick (.t 10) (.t 15) (.c (.bool false))),zm 4 16]
def k0cx:IC:=(.seq qbts (.seq qbs2 .ret))
@[go_sem] def s0cx:List (RV×Co):=[(.t 4,.id)]
theorem c0cx:cFun Tryz.prog 36 = some (17,k0cx,s0cx):=by kernel_rfl

def qbjj:IC:=zr [zv 2 (.mov (zc 0))]
def qbtr:IC:=zr [zm 4 0,zv 5 (.len false (.t 4)),zv 6 (.bin .gtr .no (.t 5) (zc 9))]
def qbgj:IC:=zr [zv 2 (.mov (zc 0))]
def qbfl:IC:=zr [zv 3 (.mov (zc 0))]
def qbtn:IC:=zr [zm 7 3,zm 8 0,zv 9 (.len false (.t 8)),zv 10 (.bin .lss .no (.t 7) (.t 9))]
def qbe1:IC:=zr [zm 13 0,zm 14 3,zv 15 (.iad 3 (.t 13) (.t 14)),zv 16 (zd 15 1),zv 17 (zg 1 16),zv 18 (.len false (.t 17)),zv 19 (.bin .gtr .no (.t 18) (zc 9))]
def qbkz:IC:=zr [zv 2 (.mov (zc 0))]
def qbjn:IC:=zr [zm 11 3,zv 12 (.bin .add .no (.t 11) (zc 1)),zm 3 12]
def qbc9:IC:=(.seq (.seq qbtn (.cond (.t 10) .skip (.exit 0))) (.seq (.block 1 (.seq qbe1 (.cond (.t 19) (.seq qbkz .ret) .skip))) qbjn))
def qbbi:IC:=zr [zv 2 (.mov (zc 1))]
def k0dz:IC:=(.seq qbjj (.seq (.seq qbtr (.cond (.t 6) (.seq qbgj .ret) .skip)) (.seq (.seq qbfl (.block 0 (.loop qbc9))) (.seq qbbi .ret))))
@[go_sem] def s0dz:List (RV×Co):=[(.t 2,.id)]
theorem c0dz:cFun Tryz.prog 37 = some (20,k0dz,s0dz):=by kernel_rfl

def qbdw:IC:=zr [zv 2 (.mov (zc 0))]
def qbnn:IC:=zr [zm 4 0,zv 5 (.len false (.t 4)),zv 6 (.bin .gtr .no (.t 5) (zc 12))]
def qbti:IC:=zr [zv 2 (.mov (zc 0))]
def qbr7:IC:=zr [zv 3 (.mov (zc 0))]
def qbpe:IC:=zr [zm 7 3,zm 8 0,zv 9 (.len false (.t 8)),zv 10 (.bin .lss .no (.t 7) (.t 9))]
def qbcw:IC:=zr [zm 13 0,zm 14 3,zv 15 (.iad 4 (.t 13) (.t 14)),zv 16 (zd 15 3),zv 17 (zg 1 16),zi 18 (zk 20 [((.t 17),(.sl 4))]),zv 19 (zq (.t 18) (zc 0)),zm 20 19,zw 20 false 21 (zo 0),zw 20 false 22 (zo 3),zw 20 false 23 (.iad 4 (.t 21) (.t 22)),zw 20 false 24 (zd 23 2),zw 20 false 25 (zg 1 24),zw 20 false 26 (.bin .gtr .no (.t 25) (zc 200)),zv 27 (.pick (.t 20) (.c (.bool true)) (.t 26))]
def qbty:IC:=zr [zv 2 (.mov (zc 0))]
def qbn4:IC:=zr [zm 11 3,zv 12 (.bin .add .no (.t 11) (zc 1)),zm 3 12]
def qbi9:IC:=(.seq (.seq qbpe (.cond (.t 10) .skip (.exit 0))) (.seq (.block 1 (.seq qbcw (.cond (.t 27) (.seq qbty .ret) .skip))) qbn4))
def q58:IC:=zr [zv 2 (.mov (zc 1))]
def k0ec:IC:=(.seq qbdw (.seq (.seq qbnn (.cond (.t 6) (.seq qbti .ret) .skip)) (.seq (.seq qbr7 (.block 0 (.loop qbi9))) (.seq q58 .ret))))
@[go_sem] def s0ec:List (RV×Co):=[(.t 2,.id)]
theorem c0ec:cFun Tryz.prog 38 = some (28,k0ec,s0ec):=by kernel_rfl

def qbkc:IC:=zr [zv 2 (.mov (zc 0))]
def qbo2:IC:=zr [zv 3 (.mov (zc 20000))]
def qbgs:IC:=zr [zv 4 (.mov (zc 0))]
def qbit:IC:=zr [zm 5 4,zm 6 0,zv 7 (.len false (.t 6)),zv 8 (.bin .lss .no (.t 5) (.t 7))]
def qbj7:IC:=zr [zm 11 0,zm 12 4,zv 13 (.iad 3 (.t 11) (.t 12)),zv 14 (zl 3 13),zm 15 3,zi 16 (zk 62 [((.t 14),(.agg [.id,.id,(.sl 3)])),zI 15,((zc 300),.id)]),zm 3 16]
def qbfw:IC:=zr [zm 9 4,zv 10 (.bin .add .no (.t 9) (zc 1)),zm 4 10]
def qbnw:IC:=(.seq (.seq qbit (.cond (.t 8) .skip (.exit 0))) (.seq (.block 1 qbj7) qbfw))
def qbqf:IC:=zr [zm 17 3,zv 18 (.bin .lss .no (.t 17) (zc 0))]
def qbhj:IC:=zr [zv 2 (.mov (zc 0))]
def qbbm:IC:=zr [zv 2 (.mov (zc 1))]
def k0br:IC:=(.seq qbkc (.seq qbo2 (.seq (.seq qbgs (.block 0 (.loop qbnw))) (.seq (.seq qbqf (.cond (.t 18) (.seq qbhj .ret) .skip)) (.seq qbbm .ret)))))
@[go_sem] def s0br:List (RV×Co):=[(.t 2,.id)]
theorem c0br:cFun Tryz.prog 39 = some (19,k0br,s0br):=by kernel_rfl

def qbue:IC:=zr [zi 1 (.box (.t 0)),zi 2 (.alo [(.str []),(.int .i64 0),.nils])]
def qbd5:IC:=zr [zv 4 (zg 1 1),zv 5 (.nck (.t 4)),zv 6 (zd 5 1),zv 7 (zg 1 6),zv 8 (.bin .add .no (.t 7) (zc 1)),zv 9 (.nck (.t 4)),zv 10 (zd 9 1),zn (.st 1 .id (.t 10) (.t 8))]
def qbkq:IC:=zr [zv 11 (zg 1 1),zv 12 (.nck (.t 11)),zv 13 (zd 12 1),zv 14 (zg 1 13),zv 15 (.bin .gtr .no (.t 14) (zc 200))]
def qbd2:IC:=zr [zv 16 (zg 1 1),zv 17 (.nck (.t 16)),zv 18 (zd 17 2),zn (.st 1 .id (.t 18) (.c (.bool true)))]
def qbok:IC:=.dfr [zv 19 (.mfn 63 [] [(.t 1)])] (.t 19)
def qbtz:IC:=zr [zv 20 (zg 1 1),zv 21 (.nck (.t 20)),zv 22 (zd 21 2),zv 23 (zg 1 22)]
def qbt2:IC:=zr [zv 24 (.bld [(.str []),(.int .i64 0),.nils] []),zn (.st 3 (.agg [.id,.id,(.sl 3)]) (.t 2) (.t 24))]
def qbur:IC:=zr [zv 25 (zg 1 1),zi 26 (zk 64 [zI 25]),zi 3 (.alo [(.str []),(.int .i64 0),.nils]),zn (.st 3 (.agg [.id,.id,(.sl 3)]) (.t 3) (.t 26))]
def qbd6:IC:=zr [zv 27 (zg 1 1),zv 28 (.nck (.t 27)),zv 29 (zd 28 2),zv 30 (zg 1 29),zv 31 (.un .not (.t 30)),zm 32 31,zw 32 true 33 (zg 1 1),zw 32 true 34 (.nck (.t 33)),zw 32 true 35 (zd 34 0),zw 32 true 36 (zg 1 35),zj 32 true 37 (zk 65 [zI 36,((.c (.str [32,45,62,32])),.id)]),zw 32 true 38 (.un .not (.t 37)),zv 39 (.pick (.t 32) (.t 38) (.c (.bool false))),zm 40 39,zw 40 true 41 (zg 1 1),zj 40 true 42 (zk 66 [zI 41,((.c (.str [32])),.id)]),zv 43 (.pick (.t 40) (.t 42) (.c (.bool false)))]
def q8w:IC:=.drw [zp (zv 44 (zd 3 2)),zp (zv 45 (zg 1 44)),(zi 46 (zk 67 [((.t 45),(.sl 3))]),[]),(zv 47 (zg 1 1),[2]),(zi 48 (zk 64 [zI 47]),[]),(zv 49 (.bsl 3 [((.t 48),(.agg [.id,.id,(.sl 3)]))]),[]),(zi 50 (.app 3 (.agg [(.str []),(.int .i64 0),.nils]) 48 (.sl 3) (.t 46) (.t 49)),[]),zp (zv 51 (zd 3 2)),(zn (.st 1 (.sl 3) (.t 51) (.t 50)),[])]
def qnw:IC:=(.seq (.seq qbd6 (.cond (.t 43) .skip (.exit 0))) (.block 1 q8w))
def q91:IC:=zr [zv 52 (zg 1 1),zv 53 (.nck (.t 52)),zv 54 (zd 53 2),zv 55 (zg 1 54),zv 56 (.un .not (.t 55)),zm 57 56,zw 57 true 58 (zg 1 1),zj 57 true 59 (zk 66 [zI 58,((.c (.str [32,45,62,32])),.id)]),zv 60 (.pick (.t 57) (.t 59) (.c (.bool false)))]
def q41:IC:=.drw [zp (zv 61 (zl 3 3)),zp (zv 62 (zg 1 1)),(zi 63 (zk 40 [zI 62]),[0]),(zv 64 (.bsl 3 [((.t 61),(.agg [.id,.id,(.sl 3)])),((.t 63),(.agg [.id,.id,(.sl 3)]))]),[]),(zv 65 (.bld [(.str []),(.int .i64 0),.nils] [(0,1,(.c (.str [45,62]))),(2,1,(.t 64))]),[]),(zn (.st 3 (.agg [.id,.id,(.sl 3)]) (.t 2) (.t 65)),[])]
def q9p:IC:=zr [zv 66 (zl 3 3),zn (.st 3 (.agg [.id,.id,(.sl 3)]) (.t 2) (.t 66))]
def k0ed:IC:=(.seq qbue (.seq (.seq qbd5 (.seq qbkq (.cond (.t 15) qbd2 .skip))) (.seq qbok (.seq (.seq qbtz (.cond (.t 23) (.seq qbt2 .ret) .skip)) (.seq qbur (.seq (.block 0 (.loop qnw)) (.seq (.seq q91 (.cond (.t 60) (.seq q41 .ret) .skip)) (.seq q9p .ret))))))))
@[go_sem] def s0ed:List (RV×Co):=[(.c true 3 2,(.agg [.id,.id,(.sl 3)]))]
theorem c0ed:cFun Tryz.prog 40 = some (67,k0ed,s0ed):=by kernel_rfl

def qbui:IC:=zr [zi 1 (.box (.t 0)),zv 2 (.mov (.c (.str [])))]
def qbl2:IC:=zr [zv 3 (zl 3 1),zi 4 (zk 68 [((.t 3),(.agg [.id,.id,(.sl 3)]))]),zv 5 (.un .not (.t 4))]
def qbul:IC:=zr [zv 2 (.mov (.c (.str [])))]
def qbsr:IC:=zr [zv 6 (zl 3 1),zi 7 (zk 69 [((.t 6),(.agg [.id,.id,(.sl 3)]))]),zm 2 7]
def k0bg:IC:=(.seq qbui (.seq (.seq qbl2 (.cond (.t 5) (.seq qbul .ret) .skip)) (.seq qbsr .ret)))
@[go_sem] def s0bg:List (RV×Co):=[(.t 2,.id)]
theorem c0bg:cFun Tryz.prog 41 = some (8,k0bg,s0bg):=by kernel_rfl

def qbmb:IC:=zr [zi 2 (.box (.t 0)),zi 3 (.box (.t 1)),zv 4 zf]
def qbqg:IC:=.drw [zp (zv 6 (zl 3 2)),(zi 7 (zk 70 [((.t 6),(.agg [.id,.id,(.sl 3)]))]),[]),(zv 8 (zl 3 3),[1]),(zi 9 (zk 70 [((.t 8),(.agg [.id,.id,(.sl 3)]))]),[]),(zv 10 (.bin .neq (.cells [.str,(.int .i64),(.int .i64)]) (.t 7) (.t 9)),[])]
def qbly:IC:=zr [zv 4 zf]
def qbj6:IC:=zr [zv 11 (zd 2 2),zv 12 (zg 1 11),zv 13 (.len false (.t 12)),zv 14 (.mov (zc 0))]
def qbnq:IC:=zr [zv 15 (.bin .lss .no (.t 14) (.t 13))]
def qbet:IC:=zr [zm 16 14,zm 5 16]
def qbe9:IC:=.drw [zp (zv 17 (zd 2 2)),zp (zv 18 (zg 1 17)),zp (zm 19 5),zp (zv 20 (.iad 3 (.t 18) (.t 19))),zp (zv 21 (zl 3 20)),zp (zv 22 (zd 3 2)),zp (zv 23 (zg 1 22)),zp (zm 24 5),zp (zv 25 (.iad 3 (.t 23) (.t 24))),zp (zv 26 (zl 3 25)),(zi 27 (zk 42 [((.t 21),(.agg [.id,.id,(.sl 3)])),((.t 26),(.agg [.id,.id,(.sl 3)]))]),[]),zp (zv 28 (.un .not (.t 27)))]
def qbm9:IC:=zr [zv 4 zf]
def qbuh:IC:=zr [zv 29 (.bin .add .no (.t 14) (zc 1)),zm 14 29]
def qbo1:IC:=(.seq qbnq (.seq (.cond (.t 15) .skip (.exit 0)) (.seq (.block 1 (.seq qbet (.seq qbe9 (.cond (.t 28) (.seq qbm9 .ret) .skip)))) qbuh)))
def qbab:IC:=zr [zv 4 (.mov (.c (.bool true)))]
def k0bw:IC:=(.seq qbmb (.seq (.seq qbqg (.cond (.t 10) (.seq qbly .ret) .skip)) (.seq (.seq qbj6 (.block 0 (.loop qbo1))) (.seq qbab .ret))))
@[go_sem] def s0bw:List (RV×Co):=[(.t 4,.id)]
theorem c0bw:cFun Tryz.prog 42 = some (30,k0bw,s0bw):=by kernel_rfl

def qbu1:IC:=zr [zv 6 (.mov (.c .nils)),zv 7 zf]
def qbzc:IC:=zr [zm 16 0,zm 17 1,zi 18 (zk 71 [((.t 16),(.sl 3)),zI 17]),zm 19 0,zm 20 2,zi 21 (zk 71 [((.t 19),(.sl 3)),zI 20]),zm 8 18,zm 9 21]
def qbw9:IC:=zr [zm 22 8,zv 23 (.bin .lss .no (.t 22) (zc 0)),zm 24 23,zw 24 false 25 (zo 9),zw 24 false 26 (.bin .lss .no (.t 25) (zc 0)),zv 27 (.pick (.t 24) (.c (.bool true)) (.t 26)),zm 28 27,zw 28 false 29 (zo 0),zj 28 false 30 (zk 72 [((.t 29),(.sl 3))]),zw 28 false 31 (.un .not (.t 30)),zv 32 (.pick (.t 28) (.c (.bool true)) (.t 31))]
def qbuy:IC:=zr [zv 6 (.mov (.c .nils)),zv 7 zf]
def qbbs:IC:=zr [zm 33 0,zv 34 (.len false (.t 33)),zi 35 (.mks 1 (.bool false) 1 (.t 34) (.t 34)),zm 10 35]
def qbzs:IC:=zr [zm 36 8,zv 37 (.bld [(.int .i64 0),.nils] [(0,1,(.t 36))]),zv 38 (.bsl 2 [((.t 37),(.agg [.id,(.sl 1)]))]),zm 11 38]
def qbw5:IC:=zr [zv 12 (.mov (zc 0))]
def qb2q:IC:=zr [zm 39 12,zm 40 11,zv 41 (.len false (.t 40)),zv 42 (.bin .lss .no (.t 39) (.t 41))]
def qbzu:IC:=zr [zm 45 11,zm 46 12,zv 47 (.iad 2 (.t 45) (.t 46)),zv 48 (zl 2 47),zi 13 (.alo [(.int .i64 0),.nils]),zn (.st 2 (.agg [.id,(.sl 1)]) (.t 13) (.t 48))]
def qbcu:IC:=zr [zv 49 (zd 13 0),zv 50 (zg 1 49),zm 51 9,zv 52 (zq (.t 50) (.t 51))]
def qbtv:IC:=zr [zv 53 (zd 13 1),zv 54 (zg 1 53),zm 6 54,zv 7 (.mov (.c (.bool true)))]
def qbpc:IC:=zr [zm 55 10,zv 56 (zd 13 0),zv 57 (zg 1 56),zv 58 (.iad 1 (.t 55) (.t 57)),zv 59 (zg 1 58)]
def qbsw:IC:=zr [zm 60 10,zv 61 (zd 13 0),zv 62 (zg 1 61),zv 63 (.iad 1 (.t 60) (.t 62)),zn (.st 1 .id (.t 63) (.c (.bool true)))]
def qbfv:IC:=zr [zm 64 0,zv 65 (zd 13 0),zv 66 (zg 1 65),zv 67 (.iad 3 (.t 64) (.t 66)),zv 68 (zd 67 1),zv 69 (zg 1 68),zv 70 (.len false (.t 69)),zv 71 (.mov (zc 0))]
def qboy:IC:=zr [zv 72 (.bin .lss .no (.t 71) (.t 70))]
def qbtf:IC:=zr [zm 73 71,zv 74 (.iad 1 (.t 69) (.t 71)),zv 75 (zg 1 74),zm 14 73,zm 15 75]
def qbon:IC:=.drw [zp (zm 76 11),zp (zm 77 0),zp (zm 78 15),(zi 79 (zk 71 [((.t 77),(.sl 3)),zI 78]),[]),zp (zv 80 (zd 13 1)),(zv 81 (zg 1 80),[3]),(zi 82 (zk 73 [((.t 81),(.sl 1))]),[]),zp (zm 83 14),(zv 84 (.bsl 1 [zI 83]),[3,6]),zp (zi 85 (.app 1 (.int .i64 0) 8 (.sl 1) (.t 82) (.t 84))),(zv 86 (.bld [(.int .i64 0),.nils] [(0,1,(.t 79)),(1,1,(.t 85))]),[]),(zv 87 (.bsl 2 [((.t 86),(.agg [.id,(.sl 1)]))]),[]),(zi 88 (.app 2 (.agg [(.int .i64 0),.nils]) 32 (.sl 2) (.t 76) (.t 87)),[]),zp (zm 11 88)]
def qbpr:IC:=zr [zv 89 (.bin .add .no (.t 71) (zc 1)),zm 71 89]
def q38:IC:=(.seq qboy (.seq (.cond (.t 72) .skip (.exit 2)) (.seq (.block 3 (.seq qbtf qbon)) qbpr)))
def qbt1:IC:=zr [zm 43 12,zv 44 (.bin .add .no (.t 43) (zc 1)),zm 12 44]
def qb0i:IC:=(.seq (.seq qb2q (.cond (.t 42) .skip (.exit 0))) (.seq (.block 1 (.seq qbzu (.seq (.seq qbcu (.cond (.t 52) (.seq qbtv .ret) .skip)) (.seq (.seq qbpc (.cond (.t 59) (.exit 1) .skip)) (.seq qbsw (.seq qbfv (.block 2 (.loop q38)))))))) qbt1))
def qbph:IC:=zr [zv 6 (.mov (.c .nils)),zv 7 zf]
def k0c:IC:=(.seq qbu1 (.seq qbzc (.seq (.seq qbw9 (.cond (.t 32) (.seq qbuy .ret) .skip)) (.seq qbbs (.seq qbzs (.seq (.seq qbw5 (.block 0 (.loop qb0i))) (.seq qbph .ret)))))))
@[go_sem] def s0c:List (RV×Co):=[(.t 6,(.sl 1)),(.t 7,.id)]
theorem c0c:cFun Tryz.prog 43 = some (90,k0c,s0c):=by kernel_rfl

def qbm4:IC:=zr [zv 2 (.mov (.c (.str [])))]
def qbd0:IC:=zr [zm 6 0,zv 7 (.cvi .u64 (.t 6)),zm 3 7]
def qbkt:IC:=zr [zm 8 0,zv 9 (.bin .lss .no (.t 8) (zc 0))]
def qblq:IC:=zr [zm 10 3,zv 11 (.un .neg (.t 10)),zm 3 11]
def qbip:IC:=zr [zi 4 (.alo [(.int .u8 0),(.int .u8 0),(.int .u8 0),(.int .u8 0),(.int .u8 0),(.int .u8 0),(.int .u8 0),(.int .u8 0),(.int .u8 0),(.int .u8 0),(.int .u8 0),(.int .u8 0),(.int .u8 0),(.int .u8 0),(.int .u8 0),(.int .u8 0),(.int .u8 0),(.int .u8 0),(.int .u8 0),(.int .u8 0)])]
def qbqm:IC:=zr [zv 5 (.mov (zc 20))]
def qboj:IC:=zr [zm 12 5,zv 13 (.bin .sub .no (.t 12) (zc 1)),zm 5 13]
def qbli:IC:=zr [zm 14 5,zm 15 3,zv 16 (.bin .rem .no (.t 15) (.c (.int .u64 10))),zv 17 (.bin .add .no (.c (.int .u64 48)) (.t 16)),zv 18 (.cvi .u8 (.t 17)),zv 19 (.aad 1 20 (.t 4) (.t 14)),zn (.st 1 .id (.t 19) (.t 18))]
def qbqj:IC:=zr [zm 20 3,zv 21 (.bin .quo .no (.t 20) (.c (.int .u64 10))),zm 3 21]
def q6c:IC:=zr [zm 22 3,zv 23 (zq (.t 22) (.c (.int .u64 0)))]
def qbc6:IC:=(.block 1 (.seq qboj (.seq qbli (.seq qbqj (.seq q6c (.cond (.t 23) (.exit 0) .skip))))))
def q8t:IC:=zr [zm 24 0,zv 25 (.bin .lss .no (.t 24) (zc 0))]
def q95:IC:=zr [zm 26 5,zv 27 (.sla 20 (.t 4) (.t 26)),zv 28 (.cbs (.t 27)),zv 29 (.bin .add .no (.c (.str [45])) (.t 28)),zm 2 29]
def qbau:IC:=zr [zm 30 5,zv 31 (.sla 20 (.t 4) (.t 30)),zv 32 (.cbs (.t 31)),zm 2 32]
def k0cs:IC:=(.seq qbm4 (.seq qbd0 (.seq (.seq qbkt (.cond (.t 9) qblq .skip)) (.seq qbip (.seq qbqm (.seq (.block 0 (.loop qbc6)) (.seq (.seq q8t (.cond (.t 25) (.seq q95 .ret) .skip)) (.seq qbau .ret))))))))
@[go_sem] def s0cs:List (RV×Co):=[(.t 2,.id)]
theorem c0cs:cFun Tryz.prog 44 = some (33,k0cs,s0cs):=by kernel_rfl

def qbgr:IC:=zr [zi 1 (.box (.t 0)),zv 2 zf]
def qbtw:IC:=zr [zv 3 (zd 1 0),zv 4 (zg 1 3),zi 5 (zk 77 [zI 4]),zm 6 5,zw 6 true 7 (zd 1 1),zw 6 true 8 (zl 3 7),zj 6 true 9 (zk 68 [((.t 8),(.agg [.id,.id,(.sl 3)]))]),zv 10 (.pick (.t 6) (.t 9) (.c (.bool false))),zm 2 10]
def k0cv:IC:=(.seq qbgr (.seq qbtw .ret))
@[go_sem] def s0cv:List (RV×Co):=[(.t 2,.id)]
theorem c0cv:cFun Tryz.prog 46 = some (11,k0cv,s0cv):=by kernel_rfl

def qbpb:IC:=zr [zv 4 (.mov (zc 0))]
def qbko:IC:=zr [zm 6 0,zv 7 (.len false (.t 6)),zv 8 (.mov (zc 0))]
def qbfm:IC:=zr [zv 9 (.bin .lss .no (.t 8) (.t 7))]
def qbg5:IC:=zr [zm 10 8,zm 5 10]
def qblm:IC:=zr [zm 11 1,zm 12 0,zm 13 5,zv 14 (.iad 4 (.t 12) (.t 13)),zv 15 (zl 4 14),zi 16 (.call (.t 11) [((.t 15),(.agg [.id,.id,.id,(.sl 3)]))])]
def qbo3:IC:=zr [zm 17 5,zm 4 17]
def qbe0:IC:=zr [zv 18 (.bin .add .no (.t 8) (zc 1)),zm 8 18]
def qbtt:IC:=(.seq qbfm (.seq (.cond (.t 9) .skip (.exit 0)) (.seq (.block 1 (.seq qbg5 (.seq qblm (.cond (.t 16) (.seq qbo3 .ret) .skip)))) qbe0)))
def qbh9:IC:=zr [zv 4 (.mov (zc (-1)))]
def k0dn:IC:=(.seq qbpb (.seq (.seq qbko (.block 0 (.loop qbtt))) (.seq qbh9 .ret)))
@[go_sem] def s0dn:List (RV×Co):=[(.t 4,.id)]
theorem c0dn:cFun Tryz.prog 47 = some (19,k0dn,s0dn):=by kernel_rfl

def qbya:IC:=zr [zv 2 (.mov (zc 0)),zv 3 (.mov (zc 0))]
def qbwz:IC:=zr [zm 8 0,zv 9 (.len false (.t 8)),zv 10 (.mov (zc 0))]
def qbz3:IC:=zr [zv 11 (.bin .lss .no (.t 10) (.t 9))]
def qbv0:IC:=zr [zm 12 10,zm 4 12]
def qby7:IC:=zr [zm 13 0,zm 14 0,zm 15 4,zv 16 (.iad 3 (.t 14) (.t 15)),zv 17 (zd 16 0),zv 18 (zg 1 17),zi 19 (zk 71 [((.t 13),(.sl 3)),zI 18]),zm 20 4,zv 21 (.bin .lss .no (.t 19) (.t 20))]
def qbzx:IC:=zr [zm 22 4,zm 2 22,zv 3 (.mov (zc 6))]
def qb00:IC:=zr [zv 23 (.bin .add .no (.t 10) (zc 1)),zm 10 23]
def qb1h:IC:=(.seq qbz3 (.seq (.cond (.t 11) .skip (.exit 0)) (.seq (.block 1 (.seq qbv0 (.seq qby7 (.cond (.t 21) (.seq qbzx .ret) .skip)))) qb00)))
def qbb7:IC:=zr [zm 24 0,zv 25 (.len false (.t 24)),zv 26 (.mov (zc 0))]
def qbl6:IC:=zr [zv 27 (.bin .lss .no (.t 26) (.t 25))]
def qbox:IC:=zr [zm 28 26,zm 5 28]
def qbr3:IC:=zr [zm 29 0,zm 30 0,zm 31 5,zv 32 (.iad 3 (.t 30) (.t 31)),zv 33 (zl 3 32),zi 34 (zk 78 [((.t 29),(.sl 3)),((.t 33),(.agg [.id,(.sl 1),(.sl 5)]))]),zv 35 (.un .not (.t 34))]
def qbe3:IC:=zr [zm 36 5,zm 2 36,zv 3 (.mov (zc 7))]
def qblh:IC:=zr [zv 37 (.bin .add .no (.t 26) (zc 1)),zm 26 37]
def qbji:IC:=(.seq qbl6 (.seq (.cond (.t 27) .skip (.exit 2)) (.seq (.block 3 (.seq qbox (.seq qbr3 (.cond (.t 35) (.seq qbe3 .ret) .skip)))) qblh)))
def q3l:IC:=zr [zm 38 0,zi 39 (zk 79 [((.t 38),(.sl 3))]),zm 6 39]
def qbhy:IC:=zr [zm 40 0,zv 41 (.len false (.t 40)),zv 42 (.mov (zc 0))]
def qbij:IC:=zr [zv 43 (.bin .lss .no (.t 42) (.t 41))]
def qbo5:IC:=zr [zm 44 42,zm 7 44]
def qbf0:IC:=zr [zm 45 0,zv 46 (.len false (.t 45)),zm 47 6,zm 48 7,zi 49 (zk 81 [zI 46,((.t 47),(.sl 2)),zI 48]),zm 50 7,zi 51 (zk 80 [((.t 49),(.sl 1)),zI 50])]
def qbn5:IC:=zr [zm 52 7,zm 2 52,zv 3 (.mov (zc 9))]
def qbuj:IC:=zr [zv 53 (.bin .add .no (.t 42) (zc 1)),zm 42 53]
def qbpt:IC:=(.seq qbij (.seq (.cond (.t 43) .skip (.exit 4)) (.seq (.block 5 (.seq qbo5 (.seq qbf0 (.cond (.t 51) (.seq qbn5 .ret) .skip)))) qbuj)))
def qbh7:IC:=zr [zv 2 (.mov (zc 0)),zv 3 (.mov (zc 0))]
def k0e:IC:=(.seq qbya (.seq (.seq qbwz (.block 0 (.loop qb1h))) (.seq (.seq qbb7 (.block 2 (.loop qbji))) (.seq q3l (.seq (.seq qbhy (.block 4 (.loop qbpt))) (.seq qbh7 .ret))))))
@[go_sem] def s0e:List (RV×Co):=[(.t 2,.id),(.t 3,.id)]
theorem c0e:cFun Tryz.prog 48 = some (54,k0e,s0e):=by kernel_rfl

def qbmt:IC:=zr [zv 4 zf]
def qbim:IC:=zr [zm 5 0,zm 6 1,zi 7 (zk 82 [((.t 5),(.sl 4)),zI 6]),zv 8 (.bin .geq .no (.t 7) (zc 0)),zm 4 8]
def k0dq:IC:=(.seq qbmt (.seq qbim .ret))
@[go_sem] def s0dq:List (RV×Co):=[(.t 4,.id)]
theorem c0dq:cFun Tryz.prog 49 = some (9,k0dq,s0dq):=by kernel_rfl

def qbel:IC:=zr [zi 1 (.box (.t 0)),zv 2 zf]
def qbq3:IC:=zr [zv 3 (zl 4 1),zi 4 (zk 51 [((.t 3),(.agg [.id,.id,.id,(.sl 4)]))]),zv 5 (.bin .neq .no (.t 4) (zc 0)),zm 2 5]
def k0dr:IC:=(.seq qbel (.seq qbq3 .ret))
@[go_sem] def s0dr:List (RV×Co):=[(.t 2,.id)]
theorem c0dr:cFun Tryz.prog 50 = some (6,k0dr,s0dr):=by kernel_rfl

def qbxe:IC:=zr [zi 1 (.box (.t 0)),zv 2 (.mov (zc 0))]
def qbyd:IC:=zr [zv 6 (zd 1 0),zv 7 (zg 1 6),zi 8 (zk 77 [zI 7]),zm 9 8,zw 9 true 10 (zd 1 1),zw 9 true 11 (zg 1 10),zj 9 true 12 (zk 77 [zI 11]),zw 9 true 13 (zo 12),zw 13 false 14 (zd 1 1),zw 13 false 15 (zg 1 14),zw 13 false 16 (zq (.t 15) (.c (.str [45,62]))),zw 13 false 17 (zo 16),zw 17 true 18 (zd 1 2),zw 17 true 19 (zg 1 18),zw 17 true 20 (zq (.t 19) (zc 2)),zw 13 false 21 (.pick (.t 17) (.t 20) (.c (.bool false))),zw 9 true 22 (.pick (.t 13) (.c (.bool true)) (.t 21)),zv 23 (.pick (.t 9) (.t 22) (.c (.bool false))),zm 24 23,zw 24 true 25 (zd 1 2),zw 24 true 26 (zg 1 25),zw 24 true 27 (.bin .geq .no (.t 26) (zc 0)),zv 28 (.pick (.t 24) (.t 27) (.c (.bool false))),zm 29 28,zw 29 true 30 (zd 1 2),zw 29 true 31 (zg 1 30),zw 29 true 32 (.bin .leq .no (.t 31) (zc 100)),zv 33 (.pick (.t 29) (.t 32) (.c (.bool false))),zm 3 33]
def qb0l:IC:=zr [zv 34 (zd 1 3),zv 35 (zg 1 34),zv 36 (.len false (.t 35)),zv 37 (.mov (zc 0))]
def qb3p:IC:=zr [zv 38 (.bin .lss .no (.t 37) (.t 36))]
def qbye:IC:=zr [zv 39 (.iad 4 (.t 35) (.t 37)),zv 40 (zl 4 39),zi 5 (.alo [(.str []),(.str []),(.int .i64 0),.nils]),zn (.st 4 (.agg [.id,.id,.id,(.sl 3)]) (.t 5) (.t 40))]
def qb19:IC:=zr [zm 41 3,zm 42 41,zw 42 true 43 (zl 4 5),zw 42 true 44 (zd 1 2),zw 42 true 45 (zg 1 44),zj 42 true 46 (zk 83 [((.t 43),(.agg [.id,.id,.id,(.sl 3)])),zI 45]),zv 47 (.pick (.t 42) (.t 46) (.c (.bool false))),zm 3 47]
def qbw8:IC:=zr [zv 48 (.bin .add .no (.t 37) (zc 1)),zm 37 48]
def qbxj:IC:=(.seq qb3p (.seq (.cond (.t 38) .skip (.exit 0)) (.seq (.block 1 (.seq qbye qb19)) qbw8)))
def qb2o:IC:=zr [zm 49 3,zv 50 (.un .not (.t 49))]
def qbhd:IC:=zr [zv 2 (.mov (zc 10))]
def qbus:IC:=zr [zv 2 (.mov (zc 0))]
def k0p:IC:=(.seq qbxe (.seq qbyd (.seq (.seq qb0l (.block 0 (.loop qbxj))) (.seq (.seq qb2o (.cond (.t 50) (.seq qbhd .ret) .skip)) (.seq qbus .ret)))))
@[go_sem] def s0p:List (RV×Co):=[(.t 2,.id)]
theorem c0p:cFun Tryz.prog 51 = some (51,k0p,s0p):=by kernel_rfl

def qbdm:IC:=zr [zi 3 (.box (.t 0)),zi 5 (.box (.t 2)),zi 6 (.alo [(.int .i64 0),(.int .i64 0),.nils,.nils]),zv 7 (.mov (zc 0))]
def qbd3:IC:=zr [zv 22 (zl 3 3),zm 23 1,zv 24 (zl 4 5),zi 25 (zk 23 [((.t 22),(.agg [(.sl 3),(.sl 3),(.sl 4)])),((.t 23),(.sl 4)),((.t 24),(.agg [.id,.id,.id,(.sl 3)]))]),zm 21 25,zv 26 (zx 21 0),zv 27 (zx 21 1),zi 8 (.alo [(.int .i64 0),(.int .i64 0),.nils,.nils]),zn (.st 4 (.agg [.id,.id,(.sl 3),(.sl 4)]) (.t 8) (.t 26)),zm 9 27]
def qbol:IC:=zr [zm 28 9]
def qbr9:IC:=.drw [zp (zv 29 (zl 4 8)),zp (zv 30 (zl 4 8)),(zi 31 (zk 84 [((.t 30),(.agg [.id,.id,(.sl 3),(.sl 4)]))]),[0]),(zn (.st 4 (.agg [.id,.id,(.sl 3),(.sl 4)]) (.t 6) (.t 29)),[]),zp (zm 7 31)]
def q4d:IC:=zr [zv 33 (zd 3 2),zv 34 (zg 1 33),zv 35 (zl 4 5),zi 36 (zk 85 [((.t 34),(.sl 4)),((.t 35),(.agg [.id,.id,.id,(.sl 3)]))]),zm 32 36,zv 37 (zx 32 0),zv 38 (zx 32 1),zv 39 (zx 32 2),zm 10 37,zm 11 38,zm 12 39]
def qbf7:IC:=zr [zm 40 12,zv 41 (.un .not (.t 40))]
def qsm:IC:=.pan [zv 42 (.bld [(.int .i64 0)] [(0,1,(zc 16))]),zv 43 (.mki 100 (.t 42) .id)] (.t 43)
def qob:IC:=.drw [(zi 45 (zk 86 [((.c .nils),(.sl 4))]),[]),zp (zv 46 (zd 5 1)),(zv 47 (zl 3 46),[0]),(zi 48 (zk 87 [zI 45,((.t 47),(.agg [.id,.id,(.sl 3)]))]),[]),zp (zm 44 48),zp (zv 49 (zx 44 0)),zp (zv 50 (zx 44 1)),(zi 13 (.alo [(.str []),(.int .i64 0),.nils]),[0,2,3]),(zn (.st 3 (.agg [.id,.id,(.sl 3)]) (.t 13) (.t 49)),[]),zp (zm 14 50)]
def qbif:IC:=zr [zm 51 10,zv 52 (zd 13 2),zv 53 (zg 1 52),zv 54 (.bld [(.int .i64 0),(.int .i64 0),.nils,.nils] [(0,1,(zc 3)),(1,1,(.t 51)),(2,1,(.t 53))]),zi 15 (.alo [(.int .i64 0),(.int .i64 0),.nils,.nils]),zn (.st 4 (.agg [.id,.id,(.sl 3),(.sl 4)]) (.t 15) (.t 54))]
def qbex:IC:=zr [zv 16 (.mov (zc 1))]
def q45:IC:=zr [zm 55 11,zv 56 (.len false (.t 55)),zv 57 (.mov (zc 0))]
def q7x:IC:=zr [zv 58 (.bin .lss .no (.t 57) (.t 56))]
def q82:IC:=zr [zv 59 (.iad 4 (.t 55) (.t 57)),zv 60 (zl 4 59),zi 18 (.alo [(.str []),(.str []),(.int .i64 0),.nils]),zn (.st 4 (.agg [.id,.id,.id,(.sl 3)]) (.t 18) (.t 60))]
def q80:IC:=zr [zv 62 (zl 3 3),zm 63 1,zv 64 (zl 4 18),zi 65 (zk 53 [((.t 62),(.agg [(.sl 3),(.sl 3),(.sl 4)])),((.t 63),(.sl 4)),((.t 64),(.agg [.id,.id,.id,(.sl 3)]))]),zm 61 65,zv 66 (zx 61 0),zv 67 (zx 61 1),zi 19 (.alo [(.int .i64 0),(.int .i64 0),.nils,.nils]),zn (.st 4 (.agg [.id,.id,(.sl 3),(.sl 4)]) (.t 19) (.t 66)),zm 20 67]
def q74:IC:=zr [zv 68 (zd 15 3),zv 69 (zg 1 68),zv 70 (zl 4 19),zv 71 (.bsl 4 [((.t 70),(.agg [.id,.id,(.sl 3),(.sl 4)]))]),zi 72 (.app 4 (.agg [(.int .i64 0),(.int .i64 0),.nils,.nils]) 64 (.sl 4) (.t 69) (.t 71)),zv 73 (zd 15 3),zn (.st 1 (.sl 4) (.t 73) (.t 72))]
def q9f:IC:=zr [zm 74 16,zm 75 20,zv 76 (.bin .add .no (.t 74) (.t 75)),zm 16 76]
def qbbb:IC:=zr [zm 77 16,zv 78 (.bin .gtr .no (.t 77) (zc 4096))]
def qjt:IC:=.pan [zv 79 (.bld [(.int .i64 0)] [(0,1,(zc 2))]),zv 80 (.mki 100 (.t 79) .id)] (.t 80)
def q7q:IC:=zr [zv 81 (.bin .add .no (.t 57) (zc 1)),zm 57 81]
def q5f:IC:=(.seq q7x (.seq (.cond (.t 58) .skip (.exit 0)) (.seq (.block 1 (.seq q82 (.seq q80 (.seq q74 (.seq q9f (.seq qbbb (.cond (.t 78) qjt .skip))))))) q7q)))
def q5k:IC:=zr [zv 82 (zl 4 15),zm 83 16,zn (.st 4 (.agg [.id,.id,(.sl 3),(.sl 4)]) (.t 6) (.t 82)),zm 7 83]
def k0dl:IC:=(.seq qbdm (.seq (.seq qbd3 (.seq qbol (.cond (.t 28) (.seq qbr9 .ret) .skip))) (.seq q4d (.seq (.seq qbf7 (.cond (.t 41) qsm .skip)) (.seq qob (.seq qbif (.seq qbex (.seq (.seq q45 (.block 0 (.loop q5f))) (.seq q5k .ret)))))))))
@[go_sem] def s0dl:List (RV×Co):=[(.c true 4 6,(.agg [.id,.id,(.sl 3),(.sl 4)])),(.t 7,.id)]
theorem c0dl:cFun Tryz.prog 53 = some (84,k0dl,s0dl):=by kernel_rfl

def qbk3:IC:=zr [zv 2 zf]
def qbk2:IC:=zr [zm 5 0,zv 6 (zq (.t 5) (.c (.str []))),zm 7 6,zw 7 false 8 (zo 0),zw 7 false 9 (.idx (.t 8) (zc 0)),zw 7 false 10 (.bin .neq .no (.t 9) (.c (.int .u8 33))),zv 11 (.pick (.t 7) (.c (.bool true)) (.t 10))]
def qbk8:IC:=zr [zv 2 zf]
def qbeu:IC:=zr [zm 13 0,zv 14 (.sls (.t 13) (some (zc 1)) none),zi 15 (zk 88 [zI 14]),zm 12 15,zv 16 (zx 12 0),zv 17 (zx 12 1),zm 3 16,zm 4 17]
def qbof:IC:=.drw [zp (zm 18 4),zp (zv 19 (zq (.t 18) (zc 0))),zp (zm 20 19),zp (zw 20 true 21 (zo 3)),(zj 20 true 22 (zk 89 [zI 21]),[]),zp (zw 20 true 23 (zo 0)),zp (zw 20 true 24 (.sls (.t 23) (some (zc 1)) none)),zp (zw 20 true 25 (zq (.t 22) (.t 24))),zp (zv 26 (.pick (.t 20) (.t 25) (.c (.bool false)))),zp (zm 2 26)]
def k0bz:IC:=(.seq qbk3 (.seq (.seq qbk2 (.cond (.t 11) (.seq qbk8 .ret) .skip)) (.seq qbeu (.seq qbof .ret))))
@[go_sem] def s0bz:List (RV×Co):=[(.t 2,.id)]
theorem c0bz:cFun Tryz.prog 54 = some (27,k0bz,s0bz):=by kernel_rfl

def qbk7:IC:=zr [zv 2 zf]
def qbtx:IC:=zr [zm 3 0,zv 4 (.bin .geq .no (.t 3) (.c (.int .u8 65))),zm 5 4,zw 5 true 6 (zo 0),zw 5 true 7 (.bin .leq .no (.t 6) (.c (.int .u8 90))),zv 8 (.pick (.t 5) (.t 7) (.c (.bool false))),zm 2 8]
def k0cj:IC:=(.seq qbk7 (.seq qbtx .ret))
@[go_sem] def s0cj:List (RV×Co):=[(.t 2,.id)]
theorem c0cj:cFun Tryz.prog 55 = some (9,k0cj,s0cj):=by kernel_rfl

def qbpn:IC:=zr [zv 2 zf]
def qbix:IC:=zr [zv 3 (.mov (zc 1))]
def qbpk:IC:=zr [zm 4 3,zm 5 0,zv 6 (.len true (.t 5)),zv 7 (.bin .lss .no (.t 4) (.t 6))]
def qbng:IC:=zr [zm 10 0,zm 11 3,zv 12 (.idx (.t 10) (.t 11)),zi 13 (zk 90 [zI 12]),zv 14 (.un .not (.t 13))]
def qblz:IC:=zr [zv 2 zf]
def qbgt:IC:=zr [zm 8 3,zv 9 (.bin .add .no (.t 8) (zc 1)),zm 3 9]
def qbdc:IC:=(.seq (.seq qbpk (.cond (.t 7) .skip (.exit 0))) (.seq (.block 1 (.seq qbng (.cond (.t 14) (.seq qblz .ret) .skip))) qbgt))
def qbcp:IC:=zr [zv 2 (.mov (.c (.bool true)))]
def k0cn:IC:=(.seq qbpn (.seq (.seq qbix (.block 0 (.loop qbdc))) (.seq qbcp .ret)))
@[go_sem] def s0cn:List (RV×Co):=[(.t 2,.id)]
theorem c0cn:cFun Tryz.prog 56 = some (15,k0cn,s0cn):=by kernel_rfl

def qbr1:IC:=zr [zi 2 (.box (.t 0)),zi 3 (.box (.t 1)),zv 4 zf]
def qbfg:IC:=zr [zv 6 (zd 2 0),zv 7 (zg 1 6),zv 8 (zd 3 0),zv 9 (zg 1 8),zv 10 (.bin .neq .no (.t 7) (.t 9)),zm 11 10,zw 11 false 12 (zd 2 1),zw 11 false 13 (zg 1 12),zw 11 false 14 (zd 3 1),zw 11 false 15 (zg 1 14),zw 11 false 16 (.bin .neq .no (.t 13) (.t 15)),zv 17 (.pick (.t 11) (.c (.bool true)) (.t 16)),zm 18 17,zw 18 false 19 (zd 2 2),zw 18 false 20 (zg 1 19),zw 18 false 21 (.len false (.t 20)),zw 18 false 22 (zd 3 2),zw 18 false 23 (zg 1 22),zw 18 false 24 (.len false (.t 23)),zw 18 false 25 (.bin .neq .no (.t 21) (.t 24)),zv 26 (.pick (.t 18) (.c (.bool true)) (.t 25))]
def qbnv:IC:=zr [zv 4 zf]
def qbii:IC:=zr [zv 5 (.mov (zc 0))]
def qbdp:IC:=zr [zm 27 5,zv 28 (zd 2 2),zv 29 (zg 1 28),zv 30 (.len false (.t 29)),zv 31 (.bin .lss .no (.t 27) (.t 30))]
def qbhk:IC:=.drw [zp (zv 34 (zd 2 2)),zp (zv 35 (zg 1 34)),zp (zm 36 5),zp (zv 37 (.iad 3 (.t 35) (.t 36))),zp (zv 38 (zl 3 37)),zp (zv 39 (zd 3 2)),zp (zv 40 (zg 1 39)),zp (zm 41 5),zp (zv 42 (.iad 3 (.t 40) (.t 41))),zp (zv 43 (zl 3 42)),(zi 44 (zk 61 [((.t 38),(.agg [.id,.id,(.sl 3)])),((.t 43),(.agg [.id,.id,(.sl 3)]))]),[]),zp (zv 45 (.un .not (.t 44)))]
def qbja:IC:=zr [zv 4 zf]
def qbh2:IC:=zr [zm 32 5,zv 33 (.bin .add .no (.t 32) (zc 1)),zm 5 33]
def qbi5:IC:=(.seq (.seq qbdp (.cond (.t 31) .skip (.exit 0))) (.seq (.block 1 (.seq qbhk (.cond (.t 45) (.seq qbja .ret) .skip))) qbh2))
def q59:IC:=zr [zv 4 (.mov (.c (.bool true)))]
def k0bx:IC:=(.seq qbr1 (.seq (.seq qbfg (.cond (.t 26) (.seq qbnv .ret) .skip)) (.seq (.seq qbii (.block 0 (.loop qbi5))) (.seq q59 .ret))))
@[go_sem] def s0bx:List (RV×Co):=[(.t 4,.id)]
theorem c0bx:cFun Tryz.prog 61 = some (46,k0bx,s0bx):=by kernel_rfl

def qbih:IC:=zr [zi 3 (.box (.t 0)),zv 6 (.mov (zc 0))]
def qbrk:IC:=zr [zm 8 1,zv 9 (.bin .sub .no (.t 8) (zc 1)),zm 1 9]
def qbs3:IC:=zr [zm 10 2,zv 11 (.bin .lss .no (.t 10) (zc 1))]
def qbia:IC:=zr [zv 6 (.mov (zc (-1)))]
def qbdu:IC:=zr [zv 7 (.mov (zc 0))]
def qbf1:IC:=zr [zm 12 7,zv 13 (zd 3 2),zv 14 (zg 1 13),zv 15 (.len false (.t 14)),zv 16 (.bin .lss .no (.t 12) (.t 15)),zm 17 16,zw 17 true 18 (zo 1),zw 17 true 19 (.bin .geq .no (.t 18) (zc 0)),zv 20 (.pick (.t 17) (.t 19) (.c (.bool false)))]
def qbo7:IC:=zr [zv 23 (zd 3 2),zv 24 (zg 1 23),zm 25 7,zv 26 (.iad 3 (.t 24) (.t 25)),zv 27 (zl 3 26),zm 28 1,zm 29 2,zv 30 (.bin .sub .no (.t 29) (zc 1)),zi 31 (zk 62 [((.t 27),(.agg [.id,.id,(.sl 3)])),zI 28,zI 30]),zm 1 31]
def qbp0:IC:=zr [zm 21 7,zv 22 (.bin .add .no (.t 21) (zc 1)),zm 7 22]
def qbs4:IC:=(.seq (.seq qbf1 (.cond (.t 20) .skip (.exit 0))) (.seq (.block 1 qbo7) qbp0))
def q9d:IC:=zr [zm 32 1,zm 6 32]
def k0bq:IC:=(.seq qbih (.seq qbrk (.seq (.seq qbs3 (.cond (.t 11) (.seq qbia .ret) .skip)) (.seq (.seq qbdu (.block 0 (.loop qbs4))) (.seq q9d .ret)))))
@[go_sem] def s0bq:List (RV×Co):=[(.t 6,.id)]
theorem c0bq:cFun Tryz.prog 62 = some (33,k0bq,s0bq):=by kernel_rfl

def qben:IC:=zr [zv 1 (zg 1 0),zv 2 (.nck (.t 1)),zv 3 (zd 2 1),zv 4 (zg 1 3),zv 5 (.bin .sub .no (.t 4) (zc 1)),zv 6 (.nck (.t 1)),zv 7 (zd 6 1),zn (.st 1 .id (.t 7) (.t 5))]
def k0dt:IC:=qben
@[go_sem] def s0dt:List (RV×Co):=[]
theorem c0dt:cFun Tryz.prog 63 = some (8,k0dt,s0dt):=by kernel_rfl

def qbq4:IC:=zr [zi 2 (.alo [(.str []),(.int .i64 0),.nils])]
def qbi4:IC:=zr [zm 6 0,zi 7 (zk 66 [zI 6,((.c (.str [40])),.id)])]
def qbtq:IC:=zr [zm 8 0,zi 9 (zk 40 [zI 8]),zi 3 (.alo [(.str []),(.int .i64 0),.nils]),zn (.st 3 (.agg [.id,.id,(.sl 3)]) (.t 3) (.t 9))]
def qbhh:IC:=zr [zm 10 0,zm 11 0,zv 12 (.nck (.t 11)),zv 13 (zd 12 2),zv 14 (zg 1 13),zm 15 14,zw 15 false 16 (zo 0),zj 15 false 17 (zk 66 [zI 16,((.c (.str [41])),.id)]),zw 15 false 18 (.un .not (.t 17)),zv 19 (.pick (.t 15) (.c (.bool true)) (.t 18)),zv 20 (.nck (.t 10)),zv 21 (zd 20 2),zn (.st 1 .id (.t 21) (.t 19))]
def qbkf:IC:=zr [zv 22 (zl 3 3),zn (.st 3 (.agg [.id,.id,(.sl 3)]) (.t 2) (.t 22))]
def qbge:IC:=zr [zm 23 0,zv 24 (.nck (.t 23)),zv 25 (zd 24 0),zv 26 (zg 1 25),zi 27 (zk 94 [zI 26,((.c (.str [32,40,41])),.id)]),zm 4 27]
def qbq5:IC:=zr [zm 28 4,zv 29 (.bin .lss .no (.t 28) (zc 0))]
def qbj0:IC:=zr [zm 30 0,zv 31 (.nck (.t 30)),zv 32 (zd 31 0),zv 33 (zg 1 32),zv 34 (.len true (.t 33)),zm 4 34]
def qbqp:IC:=zr [zm 35 0,zv 36 (.nck (.t 35)),zv 37 (zd 36 0),zv 38 (zg 1 37),zm 39 4,zv 40 (.sls (.t 38) none (some (.t 39))),zi 41 (zk 95 [zI 40]),zi 5 (.alo [(.str []),(.int .i64 0),.nils]),zn (.st 3 (.agg [.id,.id,(.sl 3)]) (.t 5) (.t 41))]
def qbdj:IC:=.drw [zp (zm 42 0),zp (zm 43 0),zp (zm 44 0),zp (zv 45 (.nck (.t 44))),zp (zv 46 (zd 45 0)),zp (zv 47 (zg 1 46)),zp (zm 48 4),zp (zv 49 (.sls (.t 47) (some (.t 48)) none)),zp (zm 50 0),zp (zv 51 (.nck (.t 50))),zp (zv 52 (zd 51 2)),zp (zv 53 (zg 1 52)),zp (zm 54 53),zp (zw 54 false 55 (zo 4)),zp (zw 54 false 56 (zq (.t 55) (zc 0))),zp (zv 57 (.pick (.t 54) (.c (.bool true)) (.t 56))),zp (zv 58 (.nck (.t 42))),zp (zv 59 (zd 58 0)),(zn (.st 1 .id (.t 59) (.t 49)),[]),zp (zv 60 (.nck (.t 43))),zp (zv 61 (zd 60 2)),(zn (.st 1 .id (.t 61) (.t 57)),[])]
def q6m:IC:=zr [zv 62 (zl 3 5),zn (.st 3 (.agg [.id,.id,(.sl 3)]) (.t 2) (.t 62))]
def k0du:IC:=(.seq qbq4 (.seq (.seq qbi4 (.cond (.t 7) (.seq qbtq (.seq qbhh (.seq qbkf .ret))) .skip)) (.seq qbge (.seq (.seq qbq5 (.cond (.t 29) qbj0 .skip)) (.seq qbqp (.seq qbdj (.seq q6m .ret)))))))
@[go_sem] def s0du:List (RV×Co):=[(.c true 3 2,(.agg [.id,.id,(.sl 3)]))]
theorem c0du:cFun Tryz.prog 64 = some (63,k0du,s0du):=by kernel_rfl

def qbic:IC:=zr [zv 4 zf]
def qbjv:IC:=zr [zm 5 0,zm 6 1,zi 7 (zk 96 [zI 5,zI 6]),zm 4 7]
def k0cd:IC:=(.seq qbic (.seq qbjv .ret))
@[go_sem] def s0cd:List (RV×Co):=[(.t 4,.id)]
theorem c0cd:cFun Tryz.prog 65 = some (8,k0cd,s0cd):=by kernel_rfl

def qbkl:IC:=zr [zv 4 zf]
def qbld:IC:=zr [zm 6 0,zv 7 (.nck (.t 6)),zv 8 (zd 7 0),zv 9 (zg 1 8),zm 10 1,zi 11 (zk 65 [zI 9,zI 10]),zm 5 11]
def qbje:IC:=zr [zm 12 5]
def qbf2:IC:=zr [zm 13 0,zm 14 0,zv 15 (.nck (.t 14)),zv 16 (zd 15 0),zv 17 (zg 1 16),zm 18 1,zv 19 (.len true (.t 18)),zv 20 (.sls (.t 17) (some (.t 19)) none),zv 21 (.nck (.t 13)),zv 22 (zd 21 0),zn (.st 1 .id (.t 22) (.t 20))]
def qbky:IC:=zr [zm 23 5,zm 4 23]
def k0dx:IC:=(.seq qbkl (.seq qbld (.seq (.seq qbje (.cond (.t 12) qbf2 .skip)) (.seq qbky .ret))))
@[go_sem] def s0dx:List (RV×Co):=[(.t 4,.id)]
theorem c0dx:cFun Tryz.prog 66 = some (24,k0dx,s0dx):=by kernel_rfl

def qbuk:IC:=zr [zv 2 (.mov (.c .nils))]
def qbdk:IC:=zr [zm 3 0,zv 4 (.bin .eql .slice (.t 3) (.c .nils))]
def qbpg:IC:=zr [zv 2 (.mov (.c .nils))]
def qbmy:IC:=zr [zv 5 (.bsl 3 []),zm 6 0,zi 7 (.app 3 (.agg [(.str []),(.int .i64 0),.nils]) 48 (.sl 3) (.t 5) (.t 6)),zm 2 7]
def k0dw:IC:=(.seq qbuk (.seq (.seq qbdk (.cond (.t 4) (.seq qbpg .ret) .skip)) (.seq qbmy .ret)))
@[go_sem] def s0dw:List (RV×Co):=[(.t 2,(.sl 3))]
theorem c0dw:cFun Tryz.prog 67 = some (8,k0dw,s0dw):=by kernel_rfl

def qbc3:IC:=zr [zi 1 (.box (.t 0)),zv 2 zf]
def qbec:IC:=zr [zi 3 (.alo [(.int .i64 0)]),zn (.st 1 .id (.t 3) (zc 0))]
def qblg:IC:=zr [zv 4 (zl 3 1),zv 5 (.mfn 98 [] [(.t 3)]),zi 6 (zk 97 [((.t 4),(.agg [.id,.id,(.sl 3)])),((zc 1),.id),zI 5]),zm 2 6]
def k0bk:IC:=(.seq qbc3 (.seq qbec (.seq qblg .ret)))
@[go_sem] def s0bk:List (RV×Co):=[(.t 2,.id)]
theorem c0bk:cFun Tryz.prog 68 = some (7,k0bk,s0bk):=by kernel_rfl

def qbtb:IC:=zr [zi 1 (.box (.t 0)),zv 2 (.mov (.c (.str [])))]
def qbqx:IC:=zr [zv 6 (zd 1 0),zv 7 (zg 1 6),zv 8 (zq (.t 7) (.c (.str [45,62])))]
def qbsc:IC:=.drw [zp (zv 9 (zd 1 2)),zp (zv 10 (zg 1 9)),zp (zv 11 (.iad 3 (.t 10) (zc 0))),zp (zv 12 (zl 3 11)),zp (zv 13 (zd 1 2)),zp (zv 14 (zg 1 13)),zp (zv 15 (.iad 3 (.t 14) (zc 0))),zp (zv 16 (zd 15 0)),zp (zv 17 (zg 1 16)),(zv 18 (zq (.t 17) (.c (.str [45,62]))),[]),(zi 19 (zk 100 [((.t 12),(.agg [.id,.id,(.sl 3)])),zI 18]),[]),(zv 20 (.bin .add .no (.t 19) (.c (.str [32,45,62,32]))),[]),zp (zv 21 (zd 1 2)),(zv 22 (zg 1 21),[10]),zp (zv 23 (.iad 3 (.t 22) (zc 1))),(zv 24 (zl 3 23),[10]),(zi 25 (zk 69 [((.t 24),(.agg [.id,.id,(.sl 3)]))]),[]),zp (zv 26 (.bin .add .no (.t 20) (.t 25))),zp (zm 2 26)]
def qbss:IC:=zr [zi 3 (.bld 129 5)]
def qbq9:IC:=zr [zv 27 (zl 3 1),zi 28 (zk 70 [((.t 27),(.agg [.id,.id,(.sl 3)]))]),zi 29 (zk 101 [zI 28]),zi 30 (zk 75 [((.t 3),(.agg [.id,(.sl 1)])),zI 29])]
def qbp9:IC:=zr [zv 31 (zd 1 2),zv 32 (zg 1 31),zv 33 (.len false (.t 32)),zv 34 (.mov (zc 0))]
def qbn6:IC:=zr [zv 35 (.bin .lss .no (.t 34) (.t 33))]
def qbhe:IC:=zr [zv 36 (.iad 3 (.t 32) (.t 34)),zv 37 (zl 3 36),zi 5 (.alo [(.str []),(.int .i64 0),.nils]),zn (.st 3 (.agg [.id,.id,(.sl 3)]) (.t 5) (.t 37))]
def qbm1:IC:=zr [zv 38 (zl 3 5),zv 39 (zd 5 2),zv 40 (zg 1 39),zv 41 (.len false (.t 40)),zv 42 (.bin .gtr .no (.t 41) (zc 0)),zi 43 (zk 100 [((.t 38),(.agg [.id,.id,(.sl 3)])),zI 42]),zv 44 (.bin .add .no (.c (.str [32])) (.t 43)),zi 45 (zk 75 [((.t 3),(.agg [.id,(.sl 1)])),zI 44])]
def q7s:IC:=zr [zv 46 (.bin .add .no (.t 34) (zc 1)),zm 34 46]
def qbl5:IC:=(.seq qbn6 (.seq (.cond (.t 35) .skip (.exit 0)) (.seq (.block 1 (.seq qbhe qbm1)) q7s)))
def q8v:IC:=zr [zi 47 (zk 76 [((.t 3),(.agg [.id,(.sl 1)]))]),zm 2 47]
def k0bf:IC:=(.seq qbtb (.seq (.seq qbqx (.cond (.t 8) (.seq qbsc .ret) .skip)) (.seq qbss (.seq qbq9 (.seq (.seq qbp9 (.block 0 (.loop qbl5))) (.seq q8v .ret))))))
@[go_sem] def s0bf:List (RV×Co):=[(.t 2,.id)]
theorem c0bf:cFun Tryz.prog 69 = some (48,k0bf,s0bf):=by kernel_rfl

def qbmh:IC:=zr [zi 1 (.box (.t 0)),zi 2 (.alo [(.str []),(.int .i64 0),(.int .i64 0)])]
def qbeh:IC:=zr [zv 3 (zd 1 0),zv 4 (zg 1 3),zv 5 (zd 1 1),zv 6 (zg 1 5),zv 7 (zd 1 2),zv 8 (zg 1 7),zv 9 (.len false (.t 8)),zv 10 (.bld [(.str []),(.int .i64 0),(.int .i64 0)] [(0,1,(.t 4)),(1,1,(.t 6)),(2,1,(.t 9))]),zn (.st 3 .id (.t 2) (.t 10))]
def k0bv:IC:=(.seq qbmh (.seq qbeh .ret))
@[go_sem] def s0bv:List (RV×Co):=[(.c true 3 2,.id)]
theorem c0bv:cFun Tryz.prog 70 = some (11,k0bv,s0bv):=by kernel_rfl

def qb1w:IC:=zr [zv 4 (.mov (zc 0))]
def qb10:IC:=zr [zm 6 0,zv 7 (.len false (.t 6)),zv 8 (.mov (zc 0))]
def qb1k:IC:=zr [zv 9 (.bin .lss .no (.t 8) (.t 7))]
def qbvl:IC:=zr [zm 10 8,zm 5 10]
def qb1v:IC:=zr [zm 11 0,zm 12 5,zv 13 (.iad 3 (.t 11) (.t 12)),zv 14 (zd 13 0),zv 15 (zg 1 14),zm 16 1,zv 17 (zq (.t 15) (.t 16))]
def qb2c:IC:=zr [zm 18 5,zm 4 18]
def qb0y:IC:=zr [zv 19 (.bin .add .no (.t 8) (zc 1)),zm 8 19]
def qbvb:IC:=(.seq qb1k (.seq (.cond (.t 9) .skip (.exit 0)) (.seq (.block 1 (.seq qbvl (.seq qb1v (.cond (.t 17) (.seq qb2c .ret) .skip)))) qb0y)))
def qbz4:IC:=zr [zv 4 (.mov (zc (-1)))]
def k0n:IC:=(.seq qb1w (.seq (.seq qb10 (.block 0 (.loop qbvb))) (.seq qbz4 .ret)))
@[go_sem] def s0n:List (RV×Co):=[(.t 4,.id)]
theorem c0n:cFun Tryz.prog 71 = some (20,k0n,s0n):=by kernel_rfl

def qbwr:IC:=zr [zv 2 zf]
def qb1z:IC:=zr [zm 6 0,zi 7 (zk 48 [((.t 6),(.sl 3))]),zm 5 7,zv 8 (zx 5 0),zv 9 (zx 5 1),zm 3 8,zm 4 9]
def qb1d:IC:=zr [zm 10 4,zv 11 (zq (.t 10) (zc 0)),zm 2 11]
def k0f:IC:=(.seq qbwr (.seq qb1z (.seq qb1d .ret)))
@[go_sem] def s0f:List (RV×Co):=[(.t 2,.id)]
theorem c0f:cFun Tryz.prog 72 = some (12,k0f,s0f):=by kernel_rfl

def qbxn:IC:=zr [zv 2 (.mov (.c .nils))]
def qbx2:IC:=zr [zm 3 0,zv 4 (.bin .eql .slice (.t 3) (.c .nils))]
def qb15:IC:=zr [zv 2 (.mov (.c .nils))]
def qb3o:IC:=zr [zv 5 (.bsl 1 []),zm 6 0,zi 7 (.app 1 (.int .i64 0) 8 (.sl 1) (.t 5) (.t 6)),zm 2 7]
def k0d:IC:=(.seq qbxn (.seq (.seq qbx2 (.cond (.t 4) (.seq qb15 .ret) .skip)) (.seq qb3o .ret)))
@[go_sem] def s0d:List (RV×Co):=[(.t 2,(.sl 1))]
theorem c0d:cFun Tryz.prog 73 = some (8,k0d,s0d):=by kernel_rfl

def qbds:IC:=zr [zv 2 zf]
def qbcz:IC:=zr [zm 3 0,zv 4 (.bin .neq .no (.t 3) (.c (.str []))),zm 5 4,zw 5 true 6 (zo 0),zw 5 true 7 (.idx (.t 6) (zc 0)),zj 5 true 8 (zk 104 [zI 7]),zv 9 (.pick (.t 5) (.t 8) (.c (.bool false))),zm 10 9,zw 10 true 11 (zo 0),zj 10 true 12 (zk 105 [zI 11]),zv 13 (.pick (.t 10) (.t 12) (.c (.bool false))),zm 2 13]
def k0co:IC:=(.seq qbds (.seq qbcz .ret))
@[go_sem] def s0co:List (RV×Co):=[(.t 2,.id)]
theorem c0co:cFun Tryz.prog 77 = some (14,k0co,s0co):=by kernel_rfl

def qb3n:IC:=zr [zi 3 (.box (.t 1)),zv 4 zf]
def qbzy:IC:=zr [zv 7 (zd 3 1),zv 8 (zg 1 7),zv 9 (.len false (.t 8)),zv 10 (.mov (zc 0))]
def qbvi:IC:=zr [zv 11 (.bin .lss .no (.t 10) (.t 9))]
def qb1e:IC:=zr [zm 12 10,zv 13 (.iad 1 (.t 8) (.t 10)),zv 14 (zg 1 13),zm 5 12,zm 6 14]
def qbvo:IC:=zr [zm 15 0,zm 16 6,zi 17 (zk 71 [((.t 15),(.sl 3)),zI 16]),zv 18 (.bin .lss .no (.t 17) (zc 0)),zm 19 18,zw 19 false 20 (zd 3 1),zw 19 false 21 (zg 1 20),zw 19 false 22 (zo 5),zw 19 false 23 (.slv 1 (.t 21) none (some (.t 22)) none),zw 19 false 24 (zo 6),zj 19 false 25 (zk 106 [((.t 23),(.sl 1)),zI 24]),zv 26 (.pick (.t 19) (.c (.bool true)) (.t 25))]
def qb2l:IC:=zr [zv 4 zf]
def qbvf:IC:=zr [zv 27 (.bin .add .no (.t 10) (zc 1)),zm 10 27]
def qb0f:IC:=(.seq qbvi (.seq (.cond (.t 11) .skip (.exit 0)) (.seq (.block 1 (.seq qb1e (.seq qbvo (.cond (.t 26) (.seq qb2l .ret) .skip)))) qbvf)))
def qby1:IC:=zr [zv 4 (.mov (.c (.bool true)))]
def k0o:IC:=(.seq qb3n (.seq (.seq qbzy (.block 0 (.loop qb0f))) (.seq qby1 .ret)))
@[go_sem] def s0o:List (RV×Co):=[(.t 4,.id)]
theorem c0o:cFun Tryz.prog 78 = some (28,k0o,s0o):=by kernel_rfl

def qb1a:IC:=zr [zv 2 (.mov (.c .nils))]
def qbws:IC:=zr [zv 3 (.mov (.c .nils))]
def qbwb:IC:=zr [zm 7 0,zv 8 (.len false (.t 7)),zv 9 (.mov (zc 0))]
def qbyl:IC:=zr [zv 10 (.bin .lss .no (.t 9) (.t 8))]
def qbwa:IC:=zr [zm 11 9,zm 4 11]
def qby3:IC:=zr [zm 12 0,zm 13 4,zv 14 (.iad 3 (.t 12) (.t 13)),zv 15 (zd 14 1),zv 16 (zg 1 15),zv 17 (.len false (.t 16)),zv 18 (.mov (zc 0))]
def qb0b:IC:=zr [zv 19 (.bin .lss .no (.t 18) (.t 17))]
def qb13:IC:=zr [zv 20 (.iad 1 (.t 16) (.t 18)),zv 21 (zg 1 20),zm 6 21]
def qbql:IC:=zr [zm 22 3,zm 23 4,zm 24 0,zm 25 6,zi 26 (zk 71 [((.t 24),(.sl 3)),zI 25]),zv 27 (.bld [(.int .i64 0),(.int .i64 0)] [(0,1,(.t 23)),(1,1,(.t 26))]),zv 28 (.bsl 2 [zI 27]),zi 29 (.app 2 (.agg [(.int .i64 0),(.int .i64 0)]) 16 (.sl 2) (.t 22) (.t 28)),zm 3 29]
def qbrf:IC:=zr [zv 30 (.bin .add .no (.t 18) (zc 1)),zm 18 30]
def qb0s:IC:=(.seq qb0b (.seq (.cond (.t 19) .skip (.exit 2)) (.seq (.block 3 (.seq qb13 qbql)) qbrf)))
def qbig:IC:=zr [zv 31 (.bin .add .no (.t 9) (zc 1)),zm 9 31]
def qb1s:IC:=(.seq qbyl (.seq (.cond (.t 10) .skip (.exit 0)) (.seq (.block 1 (.seq qbwa (.seq qby3 (.block 2 (.loop qb0s))))) qbig)))
def qblb:IC:=zr [zm 32 3,zm 2 32]
def k0k:IC:=(.seq qb1a (.seq qbws (.seq (.seq qbwb (.block 0 (.loop qb1s))) (.seq qblb .ret))))
@[go_sem] def s0k:List (RV×Co):=[(.t 2,(.sl 2))]
theorem c0k:cFun Tryz.prog 79 = some (33,k0k,s0k):=by kernel_rfl

def qbm7:IC:=zr [zv 4 zf]
def qbkw:IC:=zr [zm 5 0,zm 6 1,zi 7 (zk 107 [((.t 5),(.sl 1)),zI 6]),zv 8 (.bin .geq .no (.t 7) (zc 0)),zm 4 8]
def k0bu:IC:=(.seq qbm7 (.seq qbkw .ret))
@[go_sem] def s0bu:List (RV×Co):=[(.t 4,.id)]
theorem c0bu:cFun Tryz.prog 80 = some (9,k0bu,s0bu):=by kernel_rfl

def qbzb:IC:=zr [zv 6 (.mov (.c .nils))]
def qb2x:IC:=zr [zm 10 0,zm 11 1,zi 12 (zk 108 [zI 10,((.t 11),(.sl 2))]),zv 13 (.bin .neq .no (.t 12) (zc 0)),zm 14 13,zw 14 false 15 (zo 2),zw 14 false 16 (.bin .lss .no (.t 15) (zc 0)),zv 17 (.pick (.t 14) (.c (.bool true)) (.t 16)),zm 18 17,zw 18 false 19 (zo 2),zw 18 false 20 (zo 0),zw 18 false 21 (.bin .geq .no (.t 19) (.t 20)),zv 22 (.pick (.t 18) (.c (.bool true)) (.t 21))]
def qbwh:IC:=zr [zv 6 (.mov (.c .nils))]
def q0j:IC:=zr [zi 7 (.alo [(.bool false),(.bool false),(.bool false),(.bool false),(.bool false),(.bool false),(.bool false),(.bool false),(.bool false),(.bool false),(.bool false),(.bool false),(.bool false),(.bool false),(.bool false),(.bool false),(.bool false),(.bool false),(.bool false),(.bool false),(.bool false),(.bool false),(.bool false),(.bool false),(.bool false),(.bool false),(.bool false),(.bool false),(.bool false),(.bool false),(.bool false),(.bool false),(.bool false),(.bool false),(.bool false),(.bool false),(.bool false),(.bool false),(.bool false),(.bool false),(.bool false),(.bool false),(.bool false),(.bool false),(.bool false),(.bool false),(.bool false),(.bool false),(.bool false),(.bool false),(.bool false),(.bool false),(.bool false),(.bool false),(.bool false),(.bool false),(.bool false),(.bool false),(.bool false),(.bool false),(.bool false),(.bool false),(.bool false),(.bool false),(.bool false),(.bool false),(.bool false),(.bool false),(.bool false),(.bool false),(.bool false),(.bool false),(.bool false),(.bool false),(.bool false),(.bool false),(.bool false),(.bool false),(.bool false),(.bool false),(.bool false),(.bool false),(.bool false),(.bool false),(.bool false),(.bool false),(.bool false),(.bool false),(.bool false),(.bool false),(.bool false),(.bool false),(.bool false),(.bool false),(.bool false),(.bool false),(.bool false),(.bool false),(.bool false),(.bool false),(.bool false),(.bool false),(.bool false),(.bool false),(.bool false),(.bool false),(.bool false),(.bool false),(.bool false),(.bool false),(.bool false),(.bool false),(.bool false),(.bool false),(.bool false),(.bool false),(.bool false),(.bool false),(.bool false),(.bool false),(.bool false),(.bool false),(.bool false),(.bool false),(.bool false),(.bool false),(.bool false),(.bool false),(.bool false),(.bool false),(.bool false),(.bool false),(.bool false),(.bool false),(.bool false),(.bool false),(.bool false),(.bool false),(.bool false),(.bool false),(.bool false),(.bool false),(.bool false),(.bool false),(.bool false),(.bool false),(.bool false),(.bool false),(.bool false),(.bool false),(.bool false),(.bool false),(.bool false),(.bool false),(.bool false),(.bool false),(.bool false),(.bool false),(.bool false),(.bool false),(.bool false),(.bool false),(.bool false),(.bool false),(.bool false),(.bool false),(.bool false),(.bool false),(.bool false),(.bool false),(.bool false),(.bool false),(.bool false),(.bool false),(.bool false),(.bool false),(.bool false),(.bool false),(.bool false),(.bool false),(.bool false),(.bool false),(.bool false),(.bool false),(.bool false),(.bool false),(.bool false),(.bool false),(.bool false),(.bool false),(.bool false),(.bool false),(.bool false),(.bool false),(.bool false),(.bool false),(.bool false),(.bool false),(.bool false),(.bool false),(.bool false),(.bool false),(.bool false),(.bool false),(.bool false),(.bool false),(.bool false),(.bool false),(.bool false),(.bool false),(.bool false),(.bool false),(.bool false),(.bool false),(.bool false),(.bool false),(.bool false),(.bool false),(.bool false),(.bool false),(.bool false),(.bool false),(.bool false),(.bool false),(.bool false),(.bool false),(.bool false),(.bool false),(.bool false),(.bool false),(.bool false),(.bool false),(.bool false),(.bool false),(.bool false),(.bool false),(.bool false),(.bool false),(.bool false),(.bool false),(.bool false),(.bool false),(.bool false),(.bool false),(.bool false),(.bool false),(.bool false),(.bool false),(.bool false),(.bool false),(.bool false),(.bool false),(.bool false),(.bool false),(.bool false),(.bool false),(.bool false),(.bool false),(.bool false),(.bool false),(.bool false),(.bool false),(.bool false),(.bool false),(.bool false),(.bool false),(.bool false),(.bool false),(.bool false),(.bool false),(.bool false),(.bool false),(.bool false),(.bool false),(.bool false),(.bool false),(.bool false),(.bool false),(.bool false),(.bool false),(.bool false),(.bool false),(.bool false),(.bool false),(.bool false),(.bool false),(.bool false),(.bool false),(.bool false),(.bool false),(.bool false),(.bool false),(.bool false),(.bool false),(.bool false),(.bool false),(.bool false),(.bool false),(.bool false),(.bool false),(.bool false),(.bool false),(.bool false),(.bool false),(.bool false),(.bool false),(.bool false),(.bool false),(.bool false),(.bool false),(.bool false),(.bool false),(.bool false),(.bool false),(.bool false),(.bool false),(.bool false),(.bool false),(.bool false),(.bool false),(.bool false),(.bool false),(.bool false),(.bool false),(.bool false),(.bool false),(.bool false),(.bool false),(.bool false),(.bool false),(.bool false),(.bool false),(.bool false),(.bool false),(.bool false),(.bool false),(.bool false),(.bool false),(.bool false),(.bool false),(.bool false),(.bool false),(.bool false),(.bool false),(.bool false),(.bool false),(.bool false),(.bool false),(.bool false),(.bool false),(.bool false),(.bool false),(.bool false),(.bool false),(.bool false),(.bool false),(.bool false),(.bool false),(.bool false),(.bool false),(.bool false),(.bool false),(.bool false),(.bool false),(.bool false),(.bool false),(.bool false),(.bool false),(.bool false),(.bool false),(.bool false),(.bool false),(.bool false),(.bool false),(.bool false),(.bool false),(.bool false),(.bool false),(.bool false),(.bool false),(.bool false),(.bool false),(.bool false),(.bool false),(.bool false),(.bool false),(.bool false),(.bool false),(.bool false),(.bool false),(.bool false),(.bool false),(.bool false),(.bool false),(.bool false),(.bool false),(.bool false),(.bool false),(.bool false),(.bool false),(.bool false),(.bool false),(.bool false),(.bool false),(.bool false),(.bool false),(.bool false),(.bool false),(.bool false),(.bool false),(.bool false),(.bool false),(.bool false),(.bool false),(.bool false),(.bool false),(.bool false),(.bool false),(.bool false),(.bool false),(.bool false),(.bool false),(.bool false),(.bool false),(.bool false),(.bool false),(.bool false),(.bool false),(.bool false),(.bool false),(.bool false),(.bool false),(.bool false),(.bool false),(.bool false),(.bool false),(.bool false),(.bool false),(.bool false),(.bool false),(.bool false),(.bool false),(.bool false),(.bool false),(.bool false),(.bool false),(.bool false),(.bool false),(.bool false),(.bool false),(.bool false),(.bool false),(.bool false),(.bool false),(.bool false),(.bool false),(.bool false),(.bool false),(.bool false),(.bool false),(.bool false),(.bool false),(.bool false),(.bool false),(.bool false),(.bool false),(.bool false),(.bool false),(.bool false),(.bool false),(.bool false),(.bool false),(.bool false),(.bool false),(.bool false),(.bool false),(.bool false),(.bool false),(.bool false),(.bool false),(.bool false),(.bool false),(.bool false),(.bool false),(.bool false),(.bool false),(.bool false),(.bool false),(.bool false),(.bool false),(.bool false),(.bool false),(.bool false),(.bool false),(.bool false),(.bool false),(.bool false),(.bool false),(.bool false),(.bool false),(.bool false),(.bool false),(.bool false),(.bool false),(.bool false),(.bool false),(.bool false),(.bool false),(.bool false),(.bool false),(.bool false),(.bool false),(.bool false),(.bool false),(.bool false),(.bool false),(.bool false),(.bool false),(.bool false),(.bool false),(.bool false),(.bool false),(.bool false),(.bool false),(.bool false),(.bool false),(.bool false),(.bool false),(.bool false),(.bool false),(.bool false),(.bool false),(.bool false),(.bool false),(.bool false),(.bool false),(.bool false),(.bool false),(.bool false),(.bool false),(.bool false),(.bool false),(.bool false),(.bool false),(.bool false),(.bool false),(.bool false),(.bool false),(.bool false),(.bool false),(.bool false),(.bool false),(.bool false),(.bool false),(.bool false),(.bool false),(.bool false),(.bool false),(.bool false),(.bool false),(.bool false),(.bool false),(.bool false),(.bool false),(.bool false),(.bool false),(.bool false),(.bool false),(.bool false),(.bool false),(.bool false),(.bool false),(.bool false),(.bool false),(.bool false),(.bool false),(.bool false),(.bool false),(.bool false),(.bool false),(.bool false),(.bool false),(.bool false),(.bool false),(.bool false),(.bool false),(.bool false),(.bool false),(.bool false),(.bool false),(.bool false),(.bool false),(.bool false),(.bool false),(.bool false),(.bool false),(.bool false),(.bool false),(.bool false),(.bool false),(.bool false),(.bool false),(.bool false),(.bool false),(.bool false),(.bool false),(.bool false),(.bool false),(.bool false),(.bool false),(.bool false),(.bool false),(.bool false),(.bool false),(.bool false),(.bool false),(.bool false),(.bool false),(.bool false),(.bool false),(.bool false),(.bool false),(.bool false),(.bool false),(.bool false),(.bool false),(.bool false),(.bool false),(.bool false),(.bool false),(.bool false),(.bool false),(.bool false),(.bool false),(.bool false),(.bool false),(.bool false),(.bool false),(.bool false),(.bool false),(.bool false),(.bool false),(.bool false),(.bool false),(.bool false),(.bool false),(.bool false),(.bool false),(.bool false),(.bool false),(.bool false),(.bool false),(.bool false),(.bool false),(.bool false),(.bool false),(.bool false),(.bool false),(.bool false),(.bool false),(.bool false),(.bool false),(.bool false),(.bool false),(.bool false),(.bool false),(.bool false),(.bool false),(.bool false),(.bool false),(.bool false),(.bool false),(.bool false),(.bool false),(.bool false),(.bool false),(.bool false),(.bool false),(.bool false),(.bool false),(.bool false),(.bool false),(.bool false),(.bool false),(.bool false),(.bool false),(.bool false),(.bool false),(.bool false),(.bool false),(.bool false),(.bool false),(.bool false),(.bool false),(.bool false),(.bool false),(.bool false),(.bool false),(.bool false),(.bool false),(.bool false),(.bool false),(.bool false),(.bool false),(.bool false),(.bool false),(.bool false),(.bool false),(.bool false),(.bool false),(.bool false),(.bool false),(.bool false),(.bool false),(.bool false),(.bool false),(.bool false),(.bool false),(.bool false),(.bool false),(.bool false),(.bool false),(.bool false),(.bool false),(.bool false),(.bool false),(.bool false),(.bool false),(.bool false),(.bool false),(.bool false),(.bool false),(.bool false),(.bool false),(.bool false),(.bool false),(.bool false),(.bool false),(.bool false),(.bool false),(.bool false),(.bool false),(.bool false),(.bool false),(.bool false),(.bool false),(.bool false),(.bool false),(.bool false),(.bool false),(.bool false),(.bool false),(.bool false),(.bool false),(.bool false),(.bool false),(.bool false),(.bool false),(.bool false),(.bool false),(.bool false),(.bool false),(.bool false),(.bool false),(.bool false),(.bool false),(.bool false),(.bool false),(.bool false),(.bool false),(.bool false),(.bool false),(.bool false),(.bool false),(.bool false),(.bool false),(.bool false),(.bool false),(.bool false),(.bool false),(.bool false),(.bool false),(.bool false),(.bool false),(.bool false),(.bool false),(.bool false),(.bool false),(.bool false),(.bool false),(.bool false),(.bool false),(.bool false),(.bool false),(.bool false),(.bool false),(.bool false),(.bool false),(.bool false),(.bool false),(.bool false),(.bool false),(.bool false),(.bool false),(.bool false),(.bool false),(.bool false),(.bool false),(.bool false),(.bool false),(.bool false),(.bool false),(.bool false),(.bool false),(.bool false),(.bool false),(.bool false),(.bool false),(.bool false),(.bool false),(.bool false),(.bool false),(.bool false),(.bool false),(.bool false),(.bool false),(.bool false),(.bool false),(.bool false),(.bool false),(.bool false),(.bool false),(.bool false),(.bool false),(.bool false),(.bool false),(.bool false),(.bool false),(.bool false),(.bool false),(.bool false),(.bool false),(.bool false),(.bool false),(.bool false),(.bool false),(.bool false),(.bool false),(.bool false),(.bool false),(.bool false),(.bool false),(.bool false),(.bool false),(.bool false),(.bool false),(.bool false),(.bool false),(.bool false),(.bool false),(.bool false),(.bool false),(.bool false),(.bool false),(.bool false),(.bool false),(.bool false),(.bool false),(.bool false),(.bool false),(.bool false),(.bool false),(.bool false),(.bool false),(.bool false),(.bool false),(.bool false),(.bool false),(.bool false),(.bool false),(.bool false),(.bool false),(.bool false),(.bool false),(.bool false),(.bool false),(.bool false),(.bool false),(.bool false),(.bool false),(.bool false),(.bool false),(.bool false),(.bool false),(.bool false),(.bool false),(.bool false),(.bool false),(.bool false),(.bool false),(.bool false),(.bool false),(.bool false),(.bool false),(.bool false),(.bool false),(.bool false),(.bool false),(.bool false),(.bool false),(.bool false),(.bool false),(.bool false),(.bool false),(.bool false),(.bool false),(.bool false),(.bool false),(.bool false),(.bool false),(.bool false),(.bool false),(.bool false),(.bool false),(.bool false),(.bool false),(.bool false),(.bool false),(.bool false),(.bool false),(.bool false),(.bool false),(.bool false),(.bool false),(.bool false),(.bool false),(.bool false),(.bool false),(.bool false),(.bool false),(.bool false),(.bool false),(.bool false),(.bool false),(.bool false),(.bool false),(.bool false),(.bool false),(.bool false),(.bool false),(.bool false),(.bool false),(.bool false),(.bool false),(.bool false),(.bool false),(.bool false),(.bool false),(.bool false),(.bool false),(.bool false),(.bool false),(.bool false),(.bool false),(.bool false),(.bool false),(.bool false),(.bool false),(.bool false),(.bool false),(.bool false),(.bool false),(.bool false),(.bool false),(.bool false),(.bool false),(.bool false),(.bool false),(.bool false),(.bool false),(.bool false),(.bool false),(.bool false),(.bool false),(.bool false),(.bool false),(.bool false),(.bool false),(.bool false),(.bool false),(.bool false),(.bool false),(.bool false),(.bool false),(.bool false),(.bool false),(.bool false),(.bool false),(.bool false),(.bool false)])]
def qb3l:IC:=zr [zm 23 0,zm 24 1,zi 25 (zk 110 [zI 23,((.t 24),(.sl 2))]),zm 26 2,zi 27 (zk 109 [zI 7,((.t 25),(.sl 1)),zI 26])]
def qbck:IC:=zr [zv 8 (.mov (.c .nils))]
def qb1p:IC:=zr [zm 28 0,zv 29 (.mov (zc 0))]
def qbxo:IC:=zr [zv 30 (.bin .lss .no (.t 29) (.t 28))]
def qbx9:IC:=zr [zm 31 29,zm 9 31]
def qbct:IC:=zr [zm 32 9,zv 33 (.aad 1 1000 (.t 7) (.t 32)),zv 34 (zg 1 33)]
def qbno:IC:=zr [zm 35 8,zm 36 9,zv 37 (.bsl 1 [zI 36]),zi 38 (.app 1 (.int .i64 0) 8 (.sl 1) (.t 35) (.t 37)),zm 8 38]
def qbmm:IC:=zr [zv 39 (.bin .add .no (.t 29) (zc 1)),zm 29 39]
def qbzr:IC:=(.seq qbxo (.seq (.cond (.t 30) .skip (.exit 0)) (.seq (.block 1 (.seq qbx9 (.seq qbct (.cond (.t 34) qbno .skip)))) qbmm)))
def qblr:IC:=zr [zm 40 8,zm 6 40]
def k0g:IC:=(.seq qbzb (.seq (.seq qb2x (.cond (.t 22) (.seq qbwh .ret) .skip)) (.seq q0j (.seq qb3l (.seq qbck (.seq (.seq qb1p (.block 0 (.loop qbzr))) (.seq qblr .ret)))))))
@[go_sem] def s0g:List (RV×Co):=[(.t 6,(.sl 1))]
theorem c0g:cFun Tryz.prog 81 = some (41,k0g,s0g):=by kernel_rfl

def qbep:IC:=zr [zv 4 (.mov (zc 0))]
def qbi8:IC:=zr [zm 6 0,zv 7 (.len false (.t 6)),zv 8 (.mov (zc 0))]
def qbp2:IC:=zr [zv 9 (.bin .lss .no (.t 8) (.t 7))]
def qbpx:IC:=zr [zm 10 8,zm 5 10]
def qbsp:IC:=zr [zm 11 1,zm 12 0,zm 13 5,zv 14 (.iad 4 (.t 12) (.t 13)),zv 15 (zl 4 14),zi 16 (.call (.t 11) [((.t 15),(.agg [.id,.id,.id,(.sl 4)]))])]
def qbin:IC:=zr [zm 17 5,zm 4 17]
def qbmk:IC:=zr [zv 18 (.bin .add .no (.t 8) (zc 1)),zm 8 18]
def qbqk:IC:=(.seq qbp2 (.seq (.cond (.t 9) .skip (.exit 0)) (.seq (.block 1 (.seq qbpx (.seq qbsp (.cond (.t 16) (.seq qbin .ret) .skip)))) qbmk)))
def qbtl:IC:=zr [zv 4 (.mov (zc (-1)))]
def k0dp:IC:=(.seq qbep (.seq (.seq qbi8 (.block 0 (.loop qbqk))) (.seq qbtl .ret)))
@[go_sem] def s0dp:List (RV×Co):=[(.t 4,.id)]
theorem c0dp:cFun Tryz.prog 82 = some (19,k0dp,s0dp):=by kernel_rfl

def qbym:IC:=zr [zi 2 (.box (.t 0)),zv 4 zf]
def qbz0:IC:=zr [zv 6 (zd 2 1),zv 7 (zl 3 6),zi 5 (.alo [(.str []),(.int .i64 0),.nils]),zn (.st 3 (.agg [.id,.id,(.sl 3)]) (.t 5) (.t 7))]
def qbz5:IC:=zr [zv 8 (zd 2 0),zv 9 (zg 1 8),zi 10 (zk 77 [zI 9]),zm 11 10,zw 11 true 12 (zd 5 0),zw 11 true 13 (zg 1 12),zw 11 true 14 (zq (.t 13) (.c (.str []))),zv 15 (.pick (.t 11) (.t 14) (.c (.bool false))),zm 16 15,zw 16 true 17 (zd 5 2),zw 16 true 18 (zg 1 17),zw 16 true 19 (.len false (.t 18)),zw 16 true 20 (zq (.t 19) (zc 0)),zv 21 (.pick (.t 16) (.t 20) (.c (.bool false))),zm 22 21,zw 22 true 23 (zd 5 1),zw 22 true 24 (zg 1 23),zw 22 true 25 (.bin .geq .no (.t 24) (zc 0)),zv 26 (.pick (.t 22) (.t 25) (.c (.bool false))),zm 27 26,zw 27 true 28 (zd 5 1),zw 27 true 29 (zg 1 28),zw 27 true 30 (zo 1),zw 27 true 31 (.bin .lss .no (.t 29) (.t 30)),zv 32 (.pick (.t 27) (.t 31) (.c (.bool false))),zm 4 32]
def k0q:IC:=(.seq qbym (.seq qbz0 (.seq qbz5 .ret)))
@[go_sem] def s0q:List (RV×Co):=[(.t 4,.id)]
theorem c0q:cFun Tryz.prog 83 = some (33,k0q,s0q):=by kernel_rfl

def qb06:IC:=zr [zi 1 (.box (.t 0)),zv 2 (.mov (zc 0))]
def qb09:IC:=zr [zv 3 (.mov (zc 1))]
def qb2d:IC:=zr [zv 6 (zd 1 3),zv 7 (zg 1 6),zv 8 (.len false (.t 7)),zv 9 (.mov (zc 0))]
def qbyh:IC:=zr [zv 10 (.bin .lss .no (.t 9) (.t 8))]
def qbxx:IC:=zr [zv 11 (.iad 4 (.t 7) (.t 9)),zv 12 (zl 4 11),zi 5 (.alo [(.int .i64 0),(.int .i64 0),.nils,.nils]),zn (.st 4 (.agg [.id,.id,(.sl 3),(.sl 4)]) (.t 5) (.t 12))]
def qbvk:IC:=zr [zm 13 3,zv 14 (zl 4 5),zi 15 (zk 84 [((.t 14),(.agg [.id,.id,(.sl 3),(.sl 4)]))]),zv 16 (.bin .add .no (.t 13) (.t 15)),zm 3 16]
def qbxq:IC:=zr [zv 17 (.bin .add .no (.t 9) (zc 1)),zm 9 17]
def qb20:IC:=(.seq qbyh (.seq (.cond (.t 10) .skip (.exit 0)) (.seq (.block 1 (.seq qbxx qbvk)) qbxq)))
def qbvn:IC:=zr [zm 18 3,zm 2 18]
def k0b:IC:=(.seq qb06 (.seq qb09 (.seq (.seq qb2d (.block 0 (.loop qb20))) (.seq qbvn .ret))))
@[go_sem] def s0b:List (RV×Co):=[(.t 2,.id)]
theorem c0b:cFun Tryz.prog 84 = some (19,k0b,s0b):=by kernel_rfl

def qb3e:IC:=zr [zi 3 (.box (.t 1)),zv 4 (.mov (zc 0)),zv 5 (.mov (.c .nils)),zv 6 zf]
def qbvm:IC:=zr [zm 15 0,zv 16 (zd 3 0),zv 17 (zg 1 16),zv 18 (zd 3 1),zv 19 (zd 18 0),zv 20 (zg 1 19),zi 21 (zk 111 [((.t 15),(.sl 4)),zI 17,zI 20]),zm 14 21,zv 22 (zx 14 0),zv 23 (zx 14 1),zm 7 22,zm 8 23]
def qby8:IC:=.drw [zp (zm 24 8),zp (zv 25 (.un .not (.t 24))),zp (zm 26 25),zp (zw 26 false 27 (zd 3 1)),zp (zw 26 false 28 (zd 27 0)),zp (zw 26 false 29 (zg 1 28)),(zw 26 false 30 (zq (.t 29) (.c (.str []))),[]),zp (zv 31 (.pick (.t 26) (.c (.bool true)) (.t 30))),zp (zm 32 31),zp (zw 32 false 33 (zo 0)),zp (zw 32 false 34 (zo 7)),zp (zw 32 false 35 (.iad 4 (.t 33) (.t 34))),zp (zw 32 false 36 (zd 35 2)),zp (zw 32 false 37 (zg 1 36)),zp (zw 32 false 38 (zd 3 1)),zp (zw 32 false 39 (zd 38 2)),zp (zw 32 false 40 (zg 1 39)),zp (zw 32 false 41 (.len false (.t 40))),zp (zw 32 false 42 (.bin .neq .no (.t 37) (.t 41))),zp (zv 43 (.pick (.t 32) (.c (.bool true)) (.t 42)))]
def qbx5:IC:=zr [zv 4 (.mov (zc 0)),zv 5 (.mov (.c .nils)),zv 6 zf]
def qb1b:IC:=zr [zi 44 (zk 86 [((.c .nils),(.sl 4))]),zm 9 44]
def qbyx:IC:=zr [zv 45 (zd 3 1),zv 46 (zd 45 2),zv 47 (zg 1 46),zv 48 (.len false (.t 47)),zv 49 (.mov (zc 0))]
def qbxs:IC:=zr [zv 50 (.bin .lss .no (.t 49) (.t 48))]
def qbz7:IC:=zr [zm 51 49,zv 52 (.iad 3 (.t 47) (.t 49)),zv 53 (zl 3 52),zi 11 (.alo [(.str []),(.int .i64 0),.nils]),zm 10 51,zn (.st 3 (.agg [.id,.id,(.sl 3)]) (.t 11) (.t 53))]
def qb11:IC:=zr [zm 54 9,zm 55 10,zv 56 (zl 3 11),zi 57 (zk 112 [zI 54,zI 55,((.t 56),(.agg [.id,.id,(.sl 3)]))])]
def qbm8:IC:=zr [zv 58 (.bin .add .no (.t 49) (zc 1)),zm 49 58]
def qbyk:IC:=(.seq qbxs (.seq (.cond (.t 50) .skip (.exit 0)) (.seq (.block 1 (.seq qbz7 qb11)) qbm8)))
def qbt8:IC:=zr [zm 60 9,zm 61 0,zm 62 7,zv 63 (.iad 4 (.t 61) (.t 62)),zv 64 (zd 63 3),zv 65 (zg 1 64),zi 66 (zk 113 [zI 60,((.t 65),(.sl 4))]),zm 59 66,zv 67 (zx 59 0),zv 68 (zx 59 1),zm 12 67,zm 13 68]
def qbht:IC:=zr [zm 69 7,zm 70 12,zm 4 69,zm 5 70,zv 6 (.mov (.c (.bool true)))]
def k0s:IC:=(.seq qb3e (.seq qbvm (.seq (.seq qby8 (.cond (.t 43) (.seq qbx5 .ret) .skip)) (.seq qb1b (.seq (.seq qbyx (.block 0 (.loop qbyk))) (.seq qbt8 (.seq qbht .ret)))))))
@[go_sem] def s0s:List (RV×Co):=[(.t 4,.id),(.t 5,(.sl 4)),(.t 6,.id)]
theorem c0s:cFun Tryz.prog 85 = some (71,k0s,s0s):=by kernel_rfl

def qbu3:IC:=zr [zv 2 (.mov (.c .nilp))]
def qbwe:IC:=zr [zv 6 (.bld [.nils] []),zi 7 (.box (.t 6)),zm 3 7]
def qb04:IC:=zr [zm 8 0,zv 9 (.len false (.t 8)),zv 10 (.mov (zc 0))]
def qb1c:IC:=zr [zv 11 (.bin .lss .no (.t 10) (.t 9))]
def qb2g:IC:=zr [zv 12 (.iad 4 (.t 8) (.t 10)),zv 13 (zl 4 12),zi 5 (.alo [(.int .i64 0),(.str []),(.int .i64 0),.nils]),zn (.st 4 (.agg [.id,.id,.id,(.sl 3)]) (.t 5) (.t 13))]
def qb3d:IC:=zr [zm 14 3,zv 15 (zd 5 0),zv 16 (zg 1 15),zv 17 (zd 5 1),zv 18 (zl 3 17),zi 19 (zk 112 [zI 14,zI 16,((.t 18),(.agg [.id,.id,(.sl 3)]))])]
def qbxc:IC:=zr [zv 20 (.bin .add .no (.t 10) (zc 1)),zm 10 20]
def qbx4:IC:=(.seq qb1c (.seq (.cond (.t 11) .skip (.exit 0)) (.seq (.block 1 (.seq qb2g qb3d)) qbxc)))
def qb0u:IC:=zr [zm 21 3,zm 2 21]
def k0v:IC:=(.seq qbu3 (.seq qbwe (.seq (.seq qb04 (.block 0 (.loop qbx4))) (.seq qb0u .ret))))
@[go_sem] def s0v:List (RV×Co):=[(.t 2,.id)]
theorem c0v:cFun Tryz.prog 86 = some (22,k0v,s0v):=by kernel_rfl

def qbzi:IC:=zr [zi 3 (.box (.t 1)),zi 4 (.alo [(.str []),(.int .i64 0),.nils]),zv 5 (.mov (zc 0))]
def qb3q:IC:=zr [zv 8 (zl 3 3),zi 9 (zk 68 [((.t 8),(.agg [.id,.id,(.sl 3)]))]),zv 10 (.un .not (.t 9))]
def qbyg:IC:=zr [zv 11 (.bld [(.str []),(.int .i64 0),.nils] []),zn (.st 3 (.agg [.id,.id,(.sl 3)]) (.t 4) (.t 11)),zv 5 (.mov (zc 1))]
def qb01:IC:=zr [zm 12 0,zv 13 (.bld [.nilp,(.int .i64 0)] [(0,1,(.t 12)),(1,1,(zc 4096))]),zi 14 (.box (.t 13)),zm 6 14]
def qbyt:IC:=zr [zm 15 6,zv 16 (zl 3 3),zi 17 (zk 114 [zI 15,((.t 16),(.agg [.id,.id,(.sl 3)])),((zc 1),.id)]),zi 7 (.alo [(.str []),(.int .i64 0),.nils]),zn (.st 3 (.agg [.id,.id,(.sl 3)]) (.t 7) (.t 17))]
def qb1m:IC:=zr [zm 18 6,zv 19 (.nck (.t 18)),zv 20 (zd 19 1),zv 21 (zg 1 20),zv 22 (.bin .lss .no (.t 21) (zc 0))]
def qbw0:IC:=zr [zv 23 (.bld [(.str []),(.int .i64 0),.nils] []),zn (.st 3 (.agg [.id,.id,(.sl 3)]) (.t 4) (.t 23)),zv 5 (.mov (zc 2))]
def qb2f:IC:=zr [zv 24 (zl 3 7),zn (.st 3 (.agg [.id,.id,(.sl 3)]) (.t 4) (.t 24)),zv 5 (.mov (zc 0))]
def k0u:IC:=(.seq qbzi (.seq (.seq qb3q (.cond (.t 10) (.seq qbyg .ret) .skip)) (.seq qb01 (.seq qbyt (.seq (.seq qb1m (.cond (.t 22) (.seq qbw0 .ret) .skip)) (.seq qb2f .ret))))))
@[go_sem] def s0u:List (RV×Co):=[(.c true 3 4,(.agg [.id,.id,(.sl 3)])),(.t 5,.id)]
theorem c0u:cFun Tryz.prog 87 = some (25,k0u,s0u):=by kernel_rfl

def qbe6:IC:=zr [zv 2 (.mov (zc 0)),zv 3 (.mov (zc 0))]
def qbg2:IC:=zr [zm 8 0,zv 9 (zq (.t 8) (.c (.str [])))]
def qbqz:IC:=zr [zv 2 (.mov (zc 0)),zv 3 (.mov (zc 5))]
def qbgm:IC:=zr [zv 4 (.mov (zc 0))]
def qbf9:IC:=zr [zm 10 4,zm 11 0,zv 12 (.len true (.t 11)),zv 13 (.bin .lss .no (.t 10) (.t 12))]
def qbjz:IC:=zr [zm 16 0,zm 17 4,zv 18 (.idx (.t 16) (.t 17)),zv 19 (.bin .lss .no (.t 18) (.c (.int .u8 48))),zm 20 19,zw 20 false 21 (zo 0),zw 20 false 22 (zo 4),zw 20 false 23 (.idx (.t 21) (.t 22)),zw 20 false 24 (.bin .gtr .no (.t 23) (.c (.int .u8 57))),zv 25 (.pick (.t 20) (.c (.bool true)) (.t 24))]
def qbq0:IC:=zr [zv 2 (.mov (zc 0)),zv 3 (.mov (zc 5))]
def qbps:IC:=zr [zm 14 4,zv 15 (.bin .add .no (.t 14) (zc 1)),zm 4 15]
def qbrj:IC:=(.seq (.seq qbf9 (.cond (.t 13) .skip (.exit 0))) (.seq (.block 1 (.seq qbjz (.cond (.t 25) (.seq qbq0 .ret) .skip))) qbps))
def qbbo:IC:=zr [zv 5 (.mov (zc 0))]
def q6v:IC:=zr [zv 6 (.mov (zc 0))]
def q77:IC:=zr [zm 26 6,zm 27 0,zv 28 (.len true (.t 27)),zv 29 (.bin .lss .no (.t 26) (.t 28))]
def qba0:IC:=zr [zm 32 0,zm 33 6,zv 34 (.idx (.t 32) (.t 33)),zv 35 (.bin .sub .no (.t 34) (.c (.int .u8 48))),zv 36 (.cvi .i64 (.t 35)),zm 7 36]
def qbbc:IC:=zr [zm 37 5,zm 38 7,zv 39 (.bin .sub .no (zc 9223372036854775807) (.t 38)),zv 40 (.bin .quo .no (.t 39) (zc 10)),zv 41 (.bin .gtr .no (.t 37) (.t 40))]
def qbbq:IC:=zr [zv 2 (.mov (zc 0)),zv 3 (.mov (zc 4))]
def q5v:IC:=zr [zm 42 5,zv 43 (.bin .mul .no (zc 10) (.t 42)),zm 44 7,zv 45 (.bin .add .no (.t 43) (.t 44)),zm 5 45]
def qbay:IC:=zr [zm 30 6,zv 31 (.bin .add .no (.t 30) (zc 1)),zm 6 31]
def q7u:IC:=(.seq (.seq q77 (.cond (.t 29) .skip (.exit 2))) (.seq (.block 3 (.seq qba0 (.seq (.seq qbbc (.cond (.t 41) (.seq qbbq .ret) .skip)) q5v))) qbay))
def q5i:IC:=zr [zm 46 5,zm 2 46,zv 3 (.mov (zc 0))]
def k0ce:IC:=(.seq qbe6 (.seq (.seq qbg2 (.cond (.t 9) (.seq qbqz .ret) .skip)) (.seq (.seq qbgm (.block 0 (.loop qbrj))) (.seq qbbo (.seq (.seq q6v (.block 2 (.loop q7u))) (.seq q5i .ret))))))
@[go_sem] def s0ce:List (RV×Co):=[(.t 2,.id),(.t 3,.id)]
theorem c0ce:cFun Tryz.prog 88 = some (47,k0ce,s0ce):=by kernel_rfl

def qbk5:IC:=zr [zv 2 (.mov (.c (.str [])))]
def qbdq:IC:=zr [zm 5 0,zi 6 (zk 115 [zI 5]),zm 3 6]
def qbos:IC:=zr [zv 4 (.mov (.c (.str [])))]
def qbqw:IC:=zr [zm 7 3,zv 8 (.bin .gtr .no (.t 7) (.c (.int .u64 9)))]
def qbj3:IC:=zr [zm 9 3,zv 10 (.bin .rem .no (.t 9) (.c (.int .u64 10))),zv 11 (.bin .add .no (.c (.int .u64 48)) (.t 10)),zv 12 (.cvi .u8 (.t 11)),zv 13 (.bsl 1 [zI 12]),zv 14 (.cbs (.t 13)),zm 15 4,zv 16 (.bin .add .no (.t 14) (.t 15)),zm 4 16]
def qbn7:IC:=zr [zm 17 3,zv 18 (.bin .quo .no (.t 17) (.c (.int .u64 10))),zm 3 18]
def qbj4:IC:=(.seq (.seq qbqw (.cond (.t 8) .skip (.exit 0))) (.block 1 (.seq qbj3 qbn7)))
def qbke:IC:=zr [zm 19 3,zv 20 (.bin .add .no (.c (.int .u64 48)) (.t 19)),zv 21 (.cvi .u8 (.t 20)),zv 22 (.bsl 1 [zI 21]),zv 23 (.cbs (.t 22)),zm 24 4,zv 25 (.bin .add .no (.t 23) (.t 24)),zm 4 25]
def qbed:IC:=zr [zm 26 0,zv 27 (.bin .lss .no (.t 26) (zc 0))]
def qbae:IC:=zr [zm 28 4,zv 29 (.bin .add .no (.c (.str [45])) (.t 28)),zm 2 29]
def q6z:IC:=zr [zm 30 4,zm 2 30]
def k0cr:IC:=(.seq qbk5 (.seq qbdq (.seq qbos (.seq (.block 0 (.loop qbj4)) (.seq qbke (.seq (.seq qbed (.cond (.t 27) (.seq qbae .ret) .skip)) (.seq q6z .ret)))))))
@[go_sem] def s0cr:List (RV×Co):=[(.t 2,.id)]
theorem c0cr:cFun Tryz.prog 89 = some (31,k0cr,s0cr):=by kernel_rfl

def qbpi:IC:=zr [zv 2 zf]
def qbha:IC:=zr [zm 3 0,zi 4 (zk 116 [zI 3]),zm 5 4,zw 5 false 6 (zo 0),zj 5 false 7 (zk 55 [zI 6]),zv 8 (.pick (.t 5) (.c (.bool true)) (.t 7)),zm 9 8,zw 9 false 10 (zo 0),zj 9 false 11 (zk 117 [zI 10]),zv 12 (.pick (.t 9) (.c (.bool true)) (.t 11)),zm 13 12,zw 13 false 14 (zo 0),zw 13 false 15 (zq (.t 14) (.c (.int .u8 39))),zv 16 (.pick (.t 13) (.c (.bool true)) (.t 15)),zm 2 16]
def k0cl:IC:=(.seq qbpi (.seq qbha .ret))
@[go_sem] def s0cl:List (RV×Co):=[(.t 2,.id)]
theorem c0cl:cFun Tryz.prog 90 = some (17,k0cl,s0cl):=by kernel_rfl

def qbgq:IC:=zr [zi 2 (.alo [(.str []),(.int .i64 0),.nils])]
def qbhf:IC:=zr [zm 6 0,zi 7 (zk 125 [zI 6]),zm 3 7]
def qbt6:IC:=zr [zm 8 3,zv 9 (.bin .geq .no (.t 8) (zc 0))]
def qbiy:IC:=zr [zm 10 3,zv 11 (.bld [(.str []),(.int .i64 0),.nils] [(1,1,(.t 10))]),zn (.st 3 (.agg [.id,.id,(.sl 3)]) (.t 2) (.t 11))]
def qbmo:IC:=zr [zm 12 0,zi 13 (zk 65 [zI 12,((.c (.str [63])),.id)])]
def qbfh:IC:=zr [zm 15 0,zv 16 (.sls (.t 15) (some (zc 1)) none),zi 17 (zk 126 [zI 16]),zm 14 17,zv 18 (zx 14 0),zv 19 (zx 14 1),zm 4 18,zm 5 19]
def qbjr:IC:=zr [zm 20 5,zv 21 (zq (.t 20) (zc 0))]
def qbqc:IC:=zr [zm 22 4,zv 23 (.bin .sub .no (zc (-1)) (.t 22)),zv 24 (.bld [(.str []),(.int .i64 0),.nils] [(1,1,(.t 23))]),zn (.st 3 (.agg [.id,.id,(.sl 3)]) (.t 2) (.t 24))]
def qbgi:IC:=zr [zm 25 0,zv 26 (.bld [(.str []),(.int .i64 0),.nils] [(0,1,(.t 25))]),zn (.st 3 (.agg [.id,.id,(.sl 3)]) (.t 2) (.t 26))]
def k0dv:IC:=(.seq qbgq (.seq (.seq qbhf (.seq qbt6 (.cond (.t 9) (.seq qbiy .ret) .skip))) (.seq (.seq qbmo (.cond (.t 13) (.seq qbfh (.seq qbjr (.cond (.t 21) (.seq qbqc .ret) .skip))) .skip)) (.seq qbgi .ret))))
@[go_sem] def s0dv:List (RV×Co):=[(.c true 3 2,(.agg [.id,.id,(.sl 3)]))]
theorem c0dv:cFun Tryz.prog 95 = some (27,k0dv,s0dv):=by kernel_rfl

def qbmx:IC:=zr [zv 4 zf]
def qbfr:IC:=zr [zm 5 0,zv 6 (.len true (.t 5)),zm 7 1,zv 8 (.len true (.t 7)),zv 9 (.bin .geq .no (.t 6) (.t 8)),zm 10 9,zw 10 true 11 (zo 0),zw 10 true 12 (zo 1),zw 10 true 13 (.len true (.t 12)),zw 10 true 14 (.sls (.t 11) none (some (.t 13))),zw 10 true 15 (zo 1),zw 10 true 16 (zq (.t 14) (.t 15)),zv 17 (.pick (.t 10) (.t 16) (.c (.bool false))),zm 4 17]
def k0cc:IC:=(.seq qbmx (.seq qbfr .ret))
@[go_sem] def s0cc:List (RV×Co):=[(.t 4,.id)]
theorem c0cc:cFun Tryz.prog 96 = some (18,k0cc,s0cc):=by kernel_rfl

def qbk4:IC:=zr [zi 3 (.box (.t 0)),zv 6 zf]
def qbiv:IC:=zr [zm 9 2,zv 10 (zl 3 3),zm 11 1,zi 12 (.call (.t 9) [((.t 10),(.agg [.id,.id,(.sl 3)])),zI 11]),zv 13 (.un .not (.t 12))]
def qbg3:IC:=zr [zv 6 zf]
def qbls:IC:=zr [zv 14 (zd 3 2),zv 15 (zg 1 14),zv 16 (.len false (.t 15)),zv 17 (.mov (zc 0))]
def qbqr:IC:=zr [zv 18 (.bin .lss .no (.t 17) (.t 16))]
def qbe2:IC:=zr [zv 19 (.iad 3 (.t 15) (.t 17)),zv 20 (zl 3 19),zi 8 (.alo [(.str []),(.int .i64 0),.nils]),zn (.st 3 (.agg [.id,.id,(.sl 3)]) (.t 8) (.t 20))]
def qbhc:IC:=zr [zv 21 (zl 3 8),zm 22 1,zv 23 (.bin .add .no (.t 22) (zc 1)),zm 24 2,zi 25 (zk 97 [((.t 21),(.agg [.id,.id,(.sl 3)])),zI 23,zI 24]),zv 26 (.un .not (.t 25))]
def qbsi:IC:=zr [zv 6 zf]
def qbfe:IC:=zr [zv 27 (.bin .add .no (.t 17) (zc 1)),zm 17 27]
def qbdt:IC:=(.seq qbqr (.seq (.cond (.t 18) .skip (.exit 0)) (.seq (.block 1 (.seq qbe2 (.seq qbhc (.cond (.t 26) (.seq qbsi .ret) .skip)))) qbfe)))
def q8z:IC:=zr [zv 6 (.mov (.c (.bool true)))]
def k0cb:IC:=(.seq qbk4 (.seq (.seq qbiv (.cond (.t 13) (.seq qbg3 .ret) .skip)) (.seq (.seq qbls (.block 0 (.loop qbdt))) (.seq q8z .ret))))
@[go_sem] def s0cb:List (RV×Co):=[(.t 6,.id)]
theorem c0cb:cFun Tryz.prog 97 = some (28,k0cb,s0cb):=by kernel_rfl

def qblp:IC:=zr [zi 3 (.box (.t 0)),zv 5 zf]
def qbhs:IC:=zr [zv 6 (zg 1 2),zv 7 (.bin .add .no (.t 6) (zc 1)),zn (.st 1 .id (.t 2) (.t 7))]
def qbc0:IC:=zr [zv 8 (zg 1 2),zv 9 (.bin .leq .no (.t 8) (zc 4096)),zm 10 9,zw 10 true 11 (zo 1),zw 10 true 12 (.bin .leq .no (.t 11) (zc 100)),zv 13 (.pick (.t 10) (.t 12) (.c (.bool false))),zm 14 13,zw 14 true 15 (zl 3 3),zj 14 true 16 (zk 70 [((.t 15),(.agg [.id,.id,(.sl 3)]))]),zj 14 true 17 (zk 99 [zI 16]),zv 18 (.pick (.t 14) (.t 17) (.c (.bool false))),zm 5 18]
def k0bh:IC:=(.seq qblp (.seq qbhs (.seq qbc0 .ret)))
@[go_sem] def s0bh:List (RV×Co):=[(.t 5,.id)]
theorem c0bh:cFun Tryz.prog 98 = some (19,k0bh,s0bh):=by kernel_rfl

def qbfj:IC:=zr [zi 1 (.box (.t 0)),zv 2 zf]
def qbez:IC:=zr [zv 4 (zd 1 0),zv 5 (zg 1 4),zv 6 (zq (.t 5) (.c (.str []))),zm 3 6]
def qbea:IC:=zr [zv 7 (zd 1 2),zv 8 (zg 1 7),zv 9 (zq (.t 8) (zc 0)),zm 2 9]
def qbug:IC:=zr [zv 11 (zd 1 0),zv 12 (zg 1 11),zv 13 (zq (.t 12) (.c (.str [45,62]))),zm 10 13]
def qbfu:IC:=zr [zv 14 (zl 3 1),zv 15 (.bld [(.str []),(.int .i64 0),(.int .i64 0)] [(0,1,(.c (.str [45,62]))),(1,1,(zc 0)),(2,1,(zc 2))]),zv 16 (.bin .eql (.cells [.str,(.int .i64),(.int .i64)]) (.t 14) (.t 15)),zm 2 16]
def qbi6:IC:=zr [zv 18 (zd 1 0),zv 19 (zg 1 18),zi 20 (zk 127 [zI 19]),zm 17 20]
def qbev:IC:=zr [zv 21 (zl 3 1),zv 22 (zd 1 0),zv 23 (zg 1 22),zv 24 (.bld [(.str []),(.int .i64 0),(.int .i64 0)] [(0,1,(.t 23))]),zv 25 (.bin .eql (.cells [.str,(.int .i64),(.int .i64)]) (.t 21) (.t 24)),zm 2 25]
def qbr2:IC:=zr [zv 26 (zd 1 1),zv 27 (zg 1 26),zv 28 (zq (.t 27) (zc 0)),zm 29 28,zw 29 true 30 (zd 1 0),zw 29 true 31 (zg 1 30),zj 29 true 32 (zk 77 [zI 31]),zv 33 (.pick (.t 29) (.t 32) (.c (.bool false))),zm 2 33]
def k0ca:IC:=(.seq qbfj (.seq (.block 0 (.seq qbez (.cond (.t 3) (.seq qbea .ret) (.seq qbug (.cond (.t 10) (.seq qbfu .ret) (.seq qbi6 (.cond (.t 17) (.seq qbev .ret) .skip))))))) (.seq qbr2 .ret)))
@[go_sem] def s0ca:List (RV×Co):=[(.t 2,.id)]
theorem c0ca:cFun Tryz.prog 99 = some (34,k0ca,s0ca):=by kernel_rfl

def qbtc:IC:=zr [zi 2 (.box (.t 0)),zv 4 (.mov (.c (.str [])))]
def qbnf:IC:=zr [zm 5 1]
def qbqh:IC:=zr [zv 6 (zl 3 2),zi 7 (zk 69 [((.t 6),(.agg [.id,.id,(.sl 3)]))]),zv 8 (.bin .add .no (.c (.str [40])) (.t 7)),zv 9 (.bin .add .no (.t 8) (.c (.str [41]))),zm 4 9]
def qbrc:IC:=zr [zv 10 (zl 3 2),zi 11 (zk 69 [((.t 10),(.agg [.id,.id,(.sl 3)]))]),zm 4 11]
def k0be:IC:=(.seq qbtc (.seq (.seq qbnf (.cond (.t 5) (.seq qbqh .ret) .skip)) (.seq qbrc .ret)))
@[go_sem] def s0be:List (RV×Co):=[(.t 4,.id)]
theorem c0be:cFun Tryz.prog 100 = some (12,k0be,s0be):=by kernel_rfl

def qbn3:IC:=zr [zi 1 (.box (.t 0)),zv 2 (.mov (.c (.str [])))]
def qbmr:IC:=zr [zv 4 (zd 1 0),zv 5 (zg 1 4),zv 6 (.bin .neq .no (.t 5) (.c (.str []))),zm 3 6]
def qbg7:IC:=zr [zv 7 (zd 1 0),zv 8 (zg 1 7),zm 2 8]
def qbsd:IC:=zr [zv 10 (zd 1 1),zv 11 (zg 1 10),zv 12 (.bin .geq .no (.t 11) (zc 0)),zm 9 12]
def qbkj:IC:=zr [zv 13 (zd 1 1),zv 14 (zg 1 13),zi 15 (zk 128 [zI 14]),zm 2 15]
def qbj8:IC:=zr [zv 16 (zd 1 1),zv 17 (zg 1 16),zv 18 (.bin .sub .no (zc (-1)) (.t 17)),zi 19 (zk 44 [zI 18]),zv 20 (.bin .add .no (.c (.str [63])) (.t 19)),zm 2 20]
def k0bd:IC:=(.seq qbn3 (.seq (.block 0 (.seq qbmr (.cond (.t 3) (.seq qbg7 .ret) (.seq qbsd (.cond (.t 9) (.seq qbkj .ret) .skip))))) (.seq qbj8 .ret)))
@[go_sem] def s0bd:List (RV×Co):=[(.t 2,.id)]
theorem c0bd:cFun Tryz.prog 101 = some (21,k0bd,s0bd):=by kernel_rfl

def qbqs:IC:=zr [zv 2 zf]
def qbkg:IC:=zr [zm 3 0,zv 4 (.bin .geq .no (.t 3) (.c (.int .u8 65))),zm 5 4,zw 5 true 6 (zo 0),zw 5 true 7 (.bin .leq .no (.t 6) (.c (.int .u8 90))),zv 8 (.pick (.t 5) (.t 7) (.c (.bool false))),zm 2 8]
def k0ci:IC:=(.seq qbqs (.seq qbkg .ret))
@[go_sem] def s0ci:List (RV×Co):=[(.t 2,.id)]
theorem c0ci:cFun Tryz.prog 104 = some (9,k0ci,s0ci):=by kernel_rfl

def qbfp:IC:=zr [zv 2 zf]
def qbe7:IC:=zr [zm 5 0,zv 6 (.len true (.t 5)),zv 7 (.mov (zc 0))]
def qbs9:IC:=zr [zv 8 (.bin .lss .no (.t 7) (.t 6))]
def qbtu:IC:=zr [zm 9 7,zm 3 9]
def qbgg:IC:=zr [zm 10 0,zm 11 3,zv 12 (.idx (.t 10) (.t 11)),zm 4 12]
def qbee:IC:=zr [zm 13 4,zi 14 (zk 131 [zI 13]),zv 15 (.un .not (.t 14)),zm 16 15,zw 16 true 17 (zo 4),zj 16 true 18 (zk 104 [zI 17]),zw 16 true 19 (.un .not (.t 18)),zv 20 (.pick (.t 16) (.t 19) (.c (.bool false))),zm 21 20,zw 21 true 22 (zo 4),zw 21 true 23 (.bin .lss .no (.t 22) (.c (.int .u8 48))),zw 21 true 24 (zo 23),zw 24 false 25 (zo 4),zw 24 false 26 (.bin .gtr .no (.t 25) (.c (.int .u8 57))),zw 21 true 27 (.pick (.t 24) (.c (.bool true)) (.t 26)),zv 28 (.pick (.t 21) (.t 27) (.c (.bool false))),zm 29 28,zw 29 true 30 (zo 4),zw 29 true 31 (.bin .neq .no (.t 30) (.c (.int .u8 39))),zv 32 (.pick (.t 29) (.t 31) (.c (.bool false)))]
def qboa:IC:=zr [zv 2 zf]
def qbk6:IC:=zr [zv 33 (.bin .add .no (.t 7) (zc 1)),zm 7 33]
def qbdv:IC:=(.seq qbs9 (.seq (.cond (.t 8) .skip (.exit 0)) (.seq (.block 1 (.seq qbtu (.seq qbgg (.seq qbee (.cond (.t 32) (.seq qboa .ret) .skip))))) qbk6)))
def q6e:IC:=zr [zv 2 (.mov (.c (.bool true)))]
def k0cm:IC:=(.seq qbfp (.seq (.seq qbe7 (.block 0 (.loop qbdv))) (.seq q6e .ret)))
@[go_sem] def s0cm:List (RV×Co):=[(.t 2,.id)]
theorem c0cm:cFun Tryz.prog 105 = some (34,k0cm,s0cm):=by kernel_rfl

def qbwm:IC:=zr [zv 4 zf]
def qbxm:IC:=zr [zm 5 0,zm 6 1,zi 7 (zk 132 [((.t 5),(.sl 1)),zI 6]),zv 8 (.bin .geq .no (.t 7) (zc 0)),zm 4 8]
def k0m:IC:=(.seq qbwm (.seq qbxm .ret))
@[go_sem] def s0m:List (RV×Co):=[(.t 4,.id)]
theorem c0m:cFun Tryz.prog 106 = some (9,k0m,s0m):=by kernel_rfl

def qbfy:IC:=zr [zv 4 (.mov (zc 0))]
def qbei:IC:=zr [zm 6 0,zv 7 (.len false (.t 6)),zv 8 (.mov (zc 0))]
def qbow:IC:=zr [zv 9 (.bin .lss .no (.t 8) (.t 7))]
def qbqv:IC:=zr [zm 10 8,zm 5 10]
def qbk9:IC:=zr [zm 11 1,zm 12 0,zm 13 5,zv 14 (.iad 1 (.t 12) (.t 13)),zv 15 (zg 1 14),zv 16 (zq (.t 11) (.t 15))]
def qbks:IC:=zr [zm 17 5,zm 4 17]
def qbjq:IC:=zr [zv 18 (.bin .add .no (.t 8) (zc 1)),zm 8 18]
def qbfd:IC:=(.seq qbow (.seq (.cond (.t 9) .skip (.exit 0)) (.seq (.block 1 (.seq qbqv (.seq qbk9 (.cond (.t 16) (.seq qbks .ret) .skip)))) qbjq)))
def qbmi:IC:=zr [zv 4 (.mov (zc (-1)))]
def k0bt:IC:=(.seq qbfy (.seq (.seq qbei (.block 0 (.loop qbfd))) (.seq qbmi .ret)))
@[go_sem] def s0bt:List (RV×Co):=[(.t 4,.id)]
theorem c0bt:cFun Tryz.prog 107 = some (19,k0bt,s0bt):=by kernel_rfl

def qbz2:IC:=zr [zv 4 (.mov (zc 0))]
def qb28:IC:=zr [zm 7 0,zv 8 (.bin .lss .no (.t 7) (zc 0)),zm 9 8,zw 9 false 10 (zo 0),zw 9 false 11 (.bin .gtr .no (.t 10) (zc 1000)),zv 12 (.pick (.t 9) (.c (.bool true)) (.t 11))]
def qbv7:IC:=zr [zv 4 (.mov (zc 1))]
def qbvj:IC:=zr [zm 13 1,zv 14 (.len false (.t 13)),zv 15 (.mov (zc 0))]
def qb2k:IC:=zr [zv 16 (.bin .lss .no (.t 15) (.t 14))]
def qbxv:IC:=zr [zv 17 (.iad 2 (.t 13) (.t 15)),zv 18 (zl 2 17),zi 6 (.alo [(.int .i64 0),(.int .i64 0)]),zn (.st 2 .id (.t 6) (.t 18))]
def qb0p:IC:=zr [zv 19 (zd 6 0),zv 20 (zg 1 19),zv 21 (zd 6 1),zv 22 (zg 1 21),zv 23 (.mm false (.t 20) (.t 22)),zv 24 (.bin .lss .no (.t 23) (zc 0)),zm 25 24,zw 25 false 26 (zd 6 0),zw 25 false 27 (zg 1 26),zw 25 false 28 (zd 6 1),zw 25 false 29 (zg 1 28),zw 25 false 30 (.mm true (.t 27) (.t 29)),zw 25 false 31 (zo 0),zw 25 false 32 (.bin .geq .no (.t 30) (.t 31)),zv 33 (.pick (.t 25) (.c (.bool true)) (.t 32))]
def qbzf:IC:=zr [zv 4 (.mov (zc 1))]
def qbxz:IC:=zr [zv 34 (.bin .add .no (.t 15) (zc 1)),zm 15 34]
def qbvc:IC:=(.seq qb2k (.seq (.cond (.t 16) .skip (.exit 0)) (.seq (.block 1 (.seq qbxv (.seq qb0p (.cond (.t 33) (.seq qbzf .ret) .skip)))) qbxz)))
def qbid:IC:=zr [zv 4 (.mov (zc 0))]
def k0j:IC:=(.seq qbz2 (.seq (.seq qb28 (.cond (.t 12) (.seq qbv7 .ret) .skip)) (.seq (.seq qbvj (.block 0 (.loop qbvc))) (.seq qbid .ret))))
@[go_sem] def s0j:List (RV×Co):=[(.t 4,.id)]
theorem c0j:cFun Tryz.prog 108 = some (35,k0j,s0j):=by kernel_rfl

def qb2z:IC:=zr [zm 8 1,zm 9 2,zv 10 (.iad 1 (.t 8) (.t 9)),zv 11 (zg 1 10),zv 12 (.len false (.t 11)),zv 13 (.mov (zc 0))]
def qby5:IC:=zr [zv 14 (.bin .lss .no (.t 13) (.t 12))]
def qb3j:IC:=zr [zv 15 (.iad 1 (.t 11) (.t 13)),zv 16 (zg 1 15),zm 7 16]
def qbxh:IC:=zr [zm 17 0,zm 18 7,zv 19 (.nck (.t 17)),zv 20 (.aad 1 1000 (.t 19) (.t 18)),zv 21 (zg 1 20),zv 22 (.un .not (.t 21))]
def qbu9:IC:=zr [zm 23 0,zm 24 7,zv 25 (.nck (.t 23)),zv 26 (.aad 1 1000 (.t 25) (.t 24)),zn (.st 1 .id (.t 26) (.c (.bool true)))]
def qb0a:IC:=zr [zm 27 0,zm 28 1,zm 29 7,zi 30 (zk 109 [zI 27,((.t 28),(.sl 1)),zI 29])]
def qb2u:IC:=zr [zv 31 (.bin .add .no (.t 13) (zc 1)),zm 13 31]
def qbwf:IC:=(.seq qby5 (.seq (.cond (.t 14) .skip (.exit 0)) (.seq (.block 1 (.seq qb3j (.seq qbxh (.cond (.t 22) (.seq qbu9 qb0a) .skip)))) qb2u)))
def k0h:IC:=(.seq qb2z (.block 0 (.loop qbwf)))
@[go_sem] def s0h:List (RV×Co):=[]
theorem c0h:cFun Tryz.prog 109 = some (32,k0h,s0h):=by kernel_rfl

def qbzm:IC:=zr [zv 4 (.mov (.c .nils))]
def qbzh:IC:=zr [zm 8 0,zi 9 (.mks 1 .nils 24 (.t 8) (.t 8)),zm 5 9]
def qbzp:IC:=zr [zm 10 1,zv 11 (.len false (.t 10)),zv 12 (.mov (zc 0))]
def qbu4:IC:=zr [zv 13 (.bin .lss .no (.t 12) (.t 11))]
def qbyw:IC:=zr [zv 14 (.iad 2 (.t 10) (.t 12)),zv 15 (zl 2 14),zi 7 (.alo [(.int .i64 0),(.int .i64 0)]),zn (.st 2 .id (.t 7) (.t 15))]
def qbwq:IC:=.drw [zp (zm 16 5),zp (zv 17 (zd 7 0)),zp (zv 18 (zg 1 17)),zp (zm 19 5),zp (zv 20 (zd 7 0)),zp (zv 21 (zg 1 20)),zp (zv 22 (.iad 1 (.t 19) (.t 21))),zp (zv 23 (zg 1 22)),zp (zv 24 (zd 7 1)),zp (zv 25 (zg 1 24)),(zv 26 (.bsl 1 [zI 25]),[]),(zi 27 (.app 1 (.int .i64 0) 8 (.sl 1) (.t 23) (.t 26)),[2]),zp (zv 28 (.iad 1 (.t 16) (.t 18))),(zn (.st 1 (.sl 1) (.t 28) (.t 27)),[])]
def qb07:IC:=zr [zv 29 (.bin .add .no (.t 12) (zc 1)),zm 12 29]
def qbxl:IC:=(.seq qbu4 (.seq (.cond (.t 13) .skip (.exit 0)) (.seq (.block 1 (.seq qbyw qbwq)) qb07)))
def qb2y:IC:=zr [zm 30 5,zm 4 30]
def k0i:IC:=(.seq qbzm (.seq qbzh (.seq (.seq qbzp (.block 0 (.loop qbxl))) (.seq qb2y .ret))))
@[go_sem] def s0i:List (RV×Co):=[(.t 4,(.sl 1))]
theorem c0i:cFun Tryz.prog 110 = some (31,k0i,s0i):=by kernel_rfl

def qb02:IC:=zr [zv 6 (.mov (zc 0)),zv 7 zf]
def qb2j:IC:=zr [zm 10 0,zv 11 (.len false (.t 10)),zv 12 (.mov (zc 0))]
def qb3f:IC:=zr [zv 13 (.bin .lss .no (.t 12) (.t 11))]
def qb3g:IC:=zr [zm 14 12,zv 15 (.iad 4 (.t 10) (.t 12)),zv 16 (zl 4 15),zi 9 (.alo [(.str []),(.str []),(.int .i64 0),.nils]),zm 8 14,zn (.st 4 (.agg [.id,.id,.id,(.sl 4)]) (.t 9) (.t 16))]
def qb3h:IC:=zr [zv 17 (zd 9 0),zv 18 (zg 1 17),zm 19 1,zv 20 (zq (.t 18) (.t 19)),zm 21 20,zw 21 true 22 (zd 9 1),zw 21 true 23 (zg 1 22),zw 21 true 24 (zo 2),zw 21 true 25 (zq (.t 23) (.t 24)),zv 26 (.pick (.t 21) (.t 25) (.c (.bool false)))]
def qb05:IC:=zr [zm 27 8,zm 6 27,zv 7 (.mov (.c (.bool true)))]
def qbwx:IC:=zr [zv 28 (.bin .add .no (.t 12) (zc 1)),zm 12 28]
def qbuw:IC:=(.seq qb3f (.seq (.cond (.t 13) .skip (.exit 0)) (.seq (.block 1 (.seq qb3g (.seq qb3h (.cond (.t 26) (.seq qb05 .ret) .skip)))) qbwx)))
def qb1q:IC:=zr [zv 6 (.mov (zc 0)),zv 7 zf]
def k0r:IC:=(.seq qb02 (.seq (.seq qb2j (.block 0 (.loop qbuw))) (.seq qb1q .ret)))
@[go_sem] def s0r:List (RV×Co):=[(.t 6,.id),(.t 7,.id)]
theorem c0r:cFun Tryz.prog 111 = some (29,k0r,s0r):=by kernel_rfl

def qb3r:IC:=zr [zi 5 (.box (.t 2)),zv 6 (.mov (zc 0))]
def qbzl:IC:=zr [zm 9 0,zv 10 (.bin .eql .ptr (.t 9) (.c .nilp)),zm 11 10,zw 11 false 12 (zl 3 5),zj 11 false 13 (zk 68 [((.t 12),(.agg [.id,.id,(.sl 3)]))]),zw 11 false 14 (.un .not (.t 13)),zv 15 (.pick (.t 11) (.c (.bool true)) (.t 14))]
def qbys:IC:=zr [zv 6 (.mov (zc 1))]
def qby9:IC:=zr [zm 17 0,zm 18 1,zi 19 (zk 133 [zI 17,zI 18]),zm 16 19,zv 20 (zx 16 0),zv 21 (zx 16 1),zm 7 20,zm 8 21]
def qb26:IC:=zr [zm 22 8]
def qb0x:IC:=zr [zv 6 (.mov (zc 6))]
def qbw7:IC:=.drw [zp (zm 23 0),zp (zm 24 0),zp (zv 25 (.nck (.t 24))),zp (zv 26 (zd 25 0)),zp (zv 27 (zg 1 26)),zp (zm 28 7),zp (zm 29 1),zp (zv 30 (zl 3 5)),(zi 31 (zk 135 [((.t 30),(.agg [.id,.id,(.sl 3)]))]),[4]),(zv 32 (.bld [(.int .i64 0),(.str []),(.int .i64 0),.nils] [(0,1,(.t 29)),(1,3,(.t 31))]),[]),(zv 33 (.bsl 4 [((.t 32),(.agg [.id,.id,.id,(.sl 3)]))]),[]),(zi 34 (zk 134 [((.t 27),(.sl 4)),zI 28,((.t 33),(.sl 4))]),[]),zp (zv 35 (.nck (.t 23))),zp (zv 36 (zd 35 0)),(zn (.st 1 (.sl 4) (.t 36) (.t 34)),[])]
def qbxa:IC:=zr [zv 6 (.mov (zc 0))]
def k0x:IC:=(.seq qb3r (.seq (.seq qbzl (.cond (.t 15) (.seq qbys .ret) .skip)) (.seq qby9 (.seq (.seq qb26 (.cond (.t 22) (.seq qb0x .ret) .skip)) (.seq qbw7 (.seq qbxa .ret))))))
@[go_sem] def s0x:List (RV×Co):=[(.t 6,.id)]
theorem c0x:cFun Tryz.prog 112 = some (37,k0x,s0x):=by kernel_rfl

def qb0h:IC:=zr [zv 4 (.mov (.c .nils)),zv 5 (.mov (zc 0))]
def qbyy:IC:=zr [zv 6 (.mov (.c .nils))]
def qbvr:IC:=zr [zm 11 1,zv 12 (.len false (.t 11)),zv 13 (.mov (zc 0))]
def qbzz:IC:=zr [zv 14 (.bin .lss .no (.t 13) (.t 12))]
def qbzw:IC:=zr [zv 15 (.iad 4 (.t 11) (.t 13)),zv 16 (zl 4 15),zi 8 (.alo [(.str []),(.str []),(.int .i64 0),.nils]),zn (.st 4 (.agg [.id,.id,.id,(.sl 3)]) (.t 8) (.t 16))]
def qbww:IC:=zr [zm 18 0,zv 19 (zd 8 1),zv 20 (zl 3 19),zi 21 (zk 87 [zI 18,((.t 20),(.agg [.id,.id,(.sl 3)]))]),zm 17 21,zv 22 (zx 17 0),zv 23 (zx 17 1),zi 9 (.alo [(.str []),(.int .i64 0),.nils]),zn (.st 3 (.agg [.id,.id,(.sl 3)]) (.t 9) (.t 22)),zm 10 23]
def qb2t:IC:=zr [zm 24 10,zv 25 (.bin .neq .no (.t 24) (zc 0))]
def qbu8:IC:=zr [zm 26 10,zv 4 (.mov (.c .nils)),zm 5 26]
def qbvh:IC:=zr [zm 27 6,zv 28 (zd 8 0),zv 29 (zg 1 28),zv 30 (zl 3 9),zv 31 (.bld [(.str []),(.str []),(.int .i64 0),.nils] [(0,1,(.t 29)),(1,3,(.t 30))]),zv 32 (.bsl 4 [((.t 31),(.agg [.id,.id,.id,(.sl 3)]))]),zi 33 (.app 4 (.agg [(.str []),(.str []),(.int .i64 0),.nils]) 64 (.sl 4) (.t 27) (.t 32)),zm 6 33]
def qbuf:IC:=zr [zv 34 (.bin .add .no (.t 13) (zc 1)),zm 13 34]
def qbvg:IC:=(.seq qbzz (.seq (.cond (.t 14) .skip (.exit 0)) (.seq (.block 1 (.seq qbzw (.seq qbww (.seq (.seq qb2t (.cond (.t 25) (.seq qbu8 .ret) .skip)) qbvh)))) qbuf)))
def qbjs:IC:=zr [zm 35 6,zm 4 35,zv 5 (.mov (zc 0))]
def k0t:IC:=(.seq qb0h (.seq qbyy (.seq (.seq qbvr (.block 0 (.loop qbvg))) (.seq qbjs .ret))))
@[go_sem] def s0t:List (RV×Co):=[(.t 4,(.sl 4)),(.t 5,.id)]
theorem c0t:cFun Tryz.prog 113 = some (36,k0t,s0t):=by kernel_rfl

def qbzj:IC:=zr [zi 4 (.box (.t 1)),zi 6 (.alo [(.str []),(.int .i64 0),.nils])]
def qbuz:IC:=zr [zv 11 (zd 4 0),zv 12 (zg 1 11),zv 13 (zq (.t 12) (.c (.str [])))]
def qbyc:IC:=.drw [zp (zm 15 0),zp (zv 16 (.nck (.t 15))),zp (zv 17 (zd 16 0)),zp (zv 18 (zg 1 17)),zp (zv 19 (zd 4 1)),zp (zv 20 (zg 1 19)),(zi 21 (zk 136 [zI 18,zI 20]),[]),zp (zm 14 21),zp (zv 22 (zx 14 0)),zp (zv 23 (zx 14 1)),(zi 7 (.alo [(.str []),(.int .i64 0),.nils]),[3,5,6]),(zn (.st 3 (.agg [.id,.id,(.sl 3)]) (.t 7) (.t 22)),[]),zp (zm 8 23)]
def qbux:IC:=zr [zm 24 8]
def qbwt:IC:=.drw [zp (zm 25 0),zp (zv 26 (.nck (.t 25))),zp (zv 27 (zd 26 1)),zp (zv 28 (zg 1 27)),zp (zv 29 (zl 3 7)),(zi 30 (zk 137 [((.t 29),(.agg [.id,.id,(.sl 3)]))]),[3]),zp (zv 31 (.bin .sub .no (.t 28) (.t 30))),zp (zv 32 (.nck (.t 25))),zp (zv 33 (zd 32 1)),(zn (.st 1 .id (.t 33) (.t 31)),[])]
def qbyv:IC:=zr [zm 34 2,zv 35 (zl 3 7),zi 36 (zk 138 [((.t 35),(.agg [.id,.id,(.sl 3)]))]),zv 37 (.bin .add .no (.t 34) (.t 36)),zv 38 (.bin .gtr .no (.t 37) (zc 101))]
def qb1o:IC:=zr [zm 39 0,zv 40 (.nck (.t 39)),zv 41 (zd 40 1),zn (.st 1 .id (.t 41) (zc (-1)))]
def qb23:IC:=zr [zv 42 (zl 3 7),zi 43 (zk 135 [((.t 42),(.agg [.id,.id,(.sl 3)]))]),zn (.st 3 (.agg [.id,.id,(.sl 3)]) (.t 6) (.t 43))]
def qbxd:IC:=zr [zm 44 0,zv 45 (.nck (.t 44)),zv 46 (zd 45 1),zv 47 (zg 1 46),zv 48 (.bin .sub .no (.t 47) (zc 1)),zv 49 (.nck (.t 44)),zv 50 (zd 49 1),zn (.st 1 .id (.t 50) (.t 48))]
def qb2p:IC:=zr [zv 51 (zd 4 2),zv 52 (zg 1 51),zv 53 (.len false (.t 52)),zi 54 (.mks 3 (.agg [(.str []),(.int .i64 0),.nils]) 48 (.t 53) (.t 53)),zm 9 54]
def qbgp:IC:=zr [zv 55 (zd 4 2),zv 56 (zg 1 55),zv 57 (.len false (.t 56)),zv 58 (.mov (zc 0))]
def qbmz:IC:=zr [zv 59 (.bin .lss .no (.t 58) (.t 57))]
def qbll:IC:=zr [zm 60 58,zm 10 60]
def qbro:IC:=zr [zm 61 0,zv 62 (.nck (.t 61)),zv 63 (zd 62 1),zv 64 (zg 1 63),zv 65 (.bin .lss .no (.t 64) (zc 0))]
def qbhi:IC:=zr [zv 66 (zl 3 4),zn (.st 3 (.agg [.id,.id,(.sl 3)]) (.t 6) (.t 66))]
def qbgo:IC:=zr [zm 67 9,zm 68 10,zm 69 0,zv 70 (zd 4 2),zv 71 (zg 1 70),zm 72 10,zv 73 (.iad 3 (.t 71) (.t 72)),zv 74 (zl 3 73),zm 75 2,zv 76 (.bin .add .no (.t 75) (zc 1)),zi 77 (zk 114 [zI 69,((.t 74),(.agg [.id,.id,(.sl 3)])),zI 76]),zv 78 (.iad 3 (.t 67) (.t 68)),zn (.st 3 (.agg [.id,.id,(.sl 3)]) (.t 78) (.t 77))]
def qbs5:IC:=zr [zv 79 (.bin .add .no (.t 58) (zc 1)),zm 58 79]
def qbfi:IC:=(.seq qbmz (.seq (.cond (.t 59) .skip (.exit 0)) (.seq (.block 1 (.seq qbll (.seq (.seq qbro (.cond (.t 65) (.seq qbhi .ret) .skip)) qbgo))) qbs5)))
def qblc:IC:=zr [zm 80 9,zv 81 (zd 4 2),zn (.st 1 (.sl 3) (.t 81) (.t 80))]
def qbgk:IC:=zr [zv 82 (zl 3 4),zn (.st 3 (.agg [.id,.id,(.sl 3)]) (.t 6) (.t 82))]
def k0w:IC:=(.seq qbzj (.seq (.seq qbuz (.cond (.t 13) (.seq qbyc (.seq qbux (.cond (.t 24) (.seq qbwt (.seq (.seq qbyv (.cond (.t 38) qb1o .skip)) (.seq qb23 .ret))) .skip))) .skip)) (.seq qbxd (.seq qb2p (.seq (.seq qbgp (.block 0 (.loop qbfi))) (.seq qblc (.seq qbgk .ret)))))))
@[go_sem] def s0w:List (RV×Co):=[(.c true 3 6,(.agg [.id,.id,(.sl 3)]))]
theorem c0w:cFun Tryz.prog 114 = some (83,k0w,s0w):=by kernel_rfl

def qbln:IC:=zr [zv 2 (.mov (.c (.int .u64 0)))]
def qbrw:IC:=zr [zm 3 0,zv 4 (.bin .lss .no (.t 3) (zc 0))]
def qbh3:IC:=zr [zm 5 0,zv 6 (.cvi .u64 (.t 5)),zv 7 (.un .neg (.t 6)),zm 2 7]
def qbmg:IC:=zr [zm 8 0,zv 9 (.cvi .u64 (.t 8)),zm 2 9]
def k0cq:IC:=(.seq qbln (.seq (.seq qbrw (.cond (.t 4) (.seq qbh3 .ret) .skip)) (.seq qbmg .ret)))
@[go_sem] def s0cq:List (RV×Co):=[(.t 2,.id)]
theorem c0cq:cFun Tryz.prog 115 = some (10,k0cq,s0cq):=by kernel_rfl

def qbm2:IC:=zr [zv 2 zf]
def qbhu:IC:=zr [zm 3 0,zv 4 (.bin .geq .no (.t 3) (.c (.int .u8 97))),zm 5 4,zw 5 true 6 (zo 0),zw 5 true 7 (.bin .leq .no (.t 6) (.c (.int .u8 122))),zv 8 (.pick (.t 5) (.t 7) (.c (.bool false))),zm 9 8,zw 9 false 10 (zo 0),zw 9 false 11 (zq (.t 10) (.c (.int .u8 95))),zv 12 (.pick (.t 9) (.c (.bool true)) (.t 11)),zm 2 12]
def k0ch:IC:=(.seq qbm2 (.seq qbhu .ret))
@[go_sem] def s0ch:List (RV×Co):=[(.t 2,.id)]
theorem c0ch:cFun Tryz.prog 116 = some (13,k0ch,s0ch):=by kernel_rfl

def qbdr:IC:=zr [zv 2 zf]
def qbgv:IC:=zr [zm 3 0,zv 4 (.bin .geq .no (.t 3) (.c (.int .u8 48))),zm 5 4,zw 5 true 6 (zo 0),zw 5 true 7 (.bin .leq .no (.t 6) (.c (.int .u8 57))),zv 8 (.pick (.t 5) (.t 7) (.c (.bool false))),zm 2 8]
def k0ck:IC:=(.seq qbdr (.seq qbgv .ret))
@[go_sem] def s0ck:List (RV×Co):=[(.t 2,.id)]
theorem c0ck:cFun Tryz.prog 117 = some (9,k0ck,s0ck):=by kernel_rfl

def qbnz:IC:=zr [zv 2 (.mov (zc 0))]
def qbjo:IC:=zr [zm 6 0,zv 7 (zq (.t 6) (.c (.str []))),zm 8 7,zw 8 false 9 (zo 0),zw 8 false 10 (.idx (.t 9) (zc 0)),zw 8 false 11 (.bin .lss .no (.t 10) (.c (.int .u8 97))),zv 12 (.pick (.t 8) (.c (.bool true)) (.t 11)),zm 13 12,zw 13 false 14 (zo 0),zw 13 false 15 (.idx (.t 14) (zc 0)),zw 13 false 16 (.bin .gtr .no (.t 15) (.c (.int .u8 122))),zv 17 (.pick (.t 13) (.c (.bool true)) (.t 16))]
def qbtj:IC:=zr [zv 2 (.mov (zc (-1)))]
def qbpp:IC:=zr [zm 18 0,zv 19 (.idx (.t 18) (zc 0)),zv 20 (.bin .sub .no (.t 19) (.c (.int .u8 97))),zv 21 (.cvi .i64 (.t 20)),zm 3 21]
def qbe4:IC:=zr [zm 22 0,zv 23 (.len true (.t 22)),zv 24 (.bin .gtr .no (.t 23) (zc 1))]
def qbnm:IC:=zr [zm 26 0,zv 27 (.sls (.t 26) (some (zc 1)) none),zi 28 (zk 126 [zI 27]),zm 25 28,zv 29 (zx 25 0),zv 30 (zx 25 1),zm 4 29,zm 5 30]
def qbjb:IC:=zr [zm 31 5,zv 32 (.bin .neq .no (.t 31) (zc 0)),zm 33 32,zw 33 false 34 (zo 4),zw 33 false 35 (.bin .gtr .no (.t 34) (zc 177372539170284150)),zv 36 (.pick (.t 33) (.c (.bool true)) (.t 35))]
def qbhr:IC:=zr [zv 2 (.mov (zc (-1)))]
def qbhn:IC:=zr [zm 37 3,zm 38 4,zv 39 (.bin .mul .no (zc 26) (.t 38)),zv 40 (.bin .add .no (.t 37) (.t 39)),zm 3 40]
def qbpo:IC:=zr [zm 41 3,zv 42 (.bin .gtr .no (.t 41) (zc 4611686018427387904)),zm 43 42,zw 43 false 44 (zo 3),zj 43 false 45 (zk 128 [zI 44]),zw 43 false 46 (zo 0),zw 43 false 47 (.bin .neq .no (.t 45) (.t 46)),zv 48 (.pick (.t 43) (.c (.bool true)) (.t 47))]
def q8g:IC:=zr [zv 2 (.mov (zc (-1)))]
def qbbd:IC:=zr [zm 49 3,zm 2 49]
def k0dy:IC:=(.seq qbnz (.seq (.seq qbjo (.cond (.t 17) (.seq qbtj .ret) .skip)) (.seq qbpp (.seq (.seq qbe4 (.cond (.t 24) (.seq qbnm (.seq (.seq qbjb (.cond (.t 36) (.seq qbhr .ret) .skip)) qbhn)) .skip)) (.seq (.seq qbpo (.cond (.t 48) (.seq q8g .ret) .skip)) (.seq qbbd .ret))))))
@[go_sem] def s0dy:List (RV×Co):=[(.t 2,.id)]
theorem c0dy:cFun Tryz.prog 125 = some (50,k0dy,s0dy):=by kernel_rfl

def qbd8:IC:=zr [zv 2 (.mov (zc 0)),zv 3 (.mov (zc 0))]
def qbc2:IC:=zr [zm 8 0,zv 9 (.len true (.t 8)),zv 10 (.mov (zc 0))]
def qbc4:IC:=zr [zv 11 (.bin .lss .no (.t 10) (.t 9))]
def qbn0:IC:=zr [zm 12 10,zm 4 12]
def qbjt:IC:=zr [zm 13 0,zm 14 4,zv 15 (.idx (.t 13) (.t 14)),zv 16 (.bin .lss .no (.t 15) (.c (.int .u8 48))),zm 17 16,zw 17 false 18 (zo 0),zw 17 false 19 (zo 4),zw 17 false 20 (.idx (.t 18) (.t 19)),zw 17 false 21 (.bin .gtr .no (.t 20) (.c (.int .u8 57))),zv 22 (.pick (.t 17) (.c (.bool true)) (.t 21))]
def qble:IC:=zr [zv 2 (.mov (zc 0)),zv 3 (.mov (zc 5))]
def qbnd:IC:=zr [zv 23 (.bin .add .no (.t 10) (zc 1)),zm 10 23]
def qbc5:IC:=(.seq qbc4 (.seq (.cond (.t 11) .skip (.exit 0)) (.seq (.block 1 (.seq qbn0 (.seq qbjt (.cond (.t 22) (.seq qble .ret) .skip)))) qbnd)))
def qbmq:IC:=zr [zm 24 0,zv 25 (zq (.t 24) (.c (.str [])))]
def qba9:IC:=zr [zv 2 (.mov (zc 0)),zv 3 (.mov (zc 5))]
def q7d:IC:=zr [zv 5 (.mov (zc 0)),zv 6 (.mov (zc 0))]
def qban:IC:=zr [zm 26 0,zm 27 6,zv 28 (.idx (.t 26) (.t 27)),zv 29 (.bin .sub .no (.t 28) (.c (.int .u8 48))),zv 30 (.cvi .i64 (.t 29)),zm 7 30]
def q9a:IC:=zr [zm 31 5,zm 32 7,zv 33 (.bin .sub .no (zc 9223372036854775807) (.t 32)),zv 34 (.bin .quo .no (.t 33) (zc 10)),zv 35 (.bin .gtr .no (.t 31) (.t 34))]
def q6l:IC:=zr [zv 2 (.mov (zc 0)),zv 3 (.mov (zc 4))]
def q5w:IC:=zr [zm 36 5,zv 37 (.bin .mul .no (zc 10) (.t 36)),zm 38 7,zv 39 (.bin .add .no (.t 37) (.t 38)),zm 5 39]
def qbaq:IC:=zr [zm 40 6,zv 41 (.bin .add .no (.t 40) (zc 1)),zm 6 41]
def q6s:IC:=zr [zm 42 6,zm 43 0,zv 44 (.len true (.t 43)),zv 45 (.bin .lss .no (.t 42) (.t 44))]
def q9l:IC:=zr [zm 46 5,zm 2 46,zv 3 (.mov (zc 0))]
def k0cf:IC:=(.seq qbd8 (.scope (.seq (.seq qbc2 (.block 0 (.loop qbc5))) (.seq (.seq qbmq (.cond (.t 25) (.seq qba9 .ret) .skip)) (.seq q7d (.seq (.label 0) (.seq qban (.seq (.seq q9a (.cond (.t 35) (.seq q6l .ret) .skip)) (.seq q5w (.seq (.seq qbaq (.seq q6s (.cond (.t 45) (.goto 0) .skip))) (.seq q9l .ret)))))))))))
@[go_sem] def s0cf:List (RV×Co):=[(.t 2,.id),(.t 3,.id)]
theorem c0cf:cFun Tryz.prog 126 = some (47,k0cf,s0cf):=by kernel_rfl

def qbrs:IC:=zr [zv 2 zf]
def qbuo:IC:=zr [zm 5 0,zi 6 (zk 65 [zI 5,((.c (.str [33])),.id)]),zv 7 (.un .not (.t 6))]
def qbkb:IC:=zr [zv 2 zf]
def qbjl:IC:=zr [zm 9 0,zv 10 (.sls (.t 9) (some (zc 1)) none),zi 11 (zk 126 [zI 10]),zm 8 11,zv 12 (zx 8 0),zv 13 (zx 8 1),zm 3 12,zm 4 13]
def qbth:IC:=.drw [zp (zm 14 4),zp (zv 15 (zq (.t 14) (zc 0))),zp (zm 16 15),zp (zw 16 true 17 (zo 3)),(zj 16 true 18 (zk 44 [zI 17]),[]),zp (zw 16 true 19 (zo 0)),zp (zw 16 true 20 (.sls (.t 19) (some (zc 1)) none)),zp (zw 16 true 21 (zq (.t 18) (.t 20))),zp (zv 22 (.pick (.t 16) (.t 21) (.c (.bool false)))),zp (zm 2 22)]
def k0by:IC:=(.seq qbrs (.seq (.seq qbuo (.cond (.t 7) (.seq qbkb .ret) .skip)) (.seq qbjl (.seq qbth .ret))))
@[go_sem] def s0by:List (RV×Co):=[(.t 2,.id)]
theorem c0by:cFun Tryz.prog 127 = some (23,k0by,s0by):=by kernel_rfl

def qbeq:IC:=zr [zv 2 (.mov (.c (.str [])))]
def qbjp:IC:=zr [zm 4 0,zv 5 (.bin .lss .no (.t 4) (zc 0))]
def qbey:IC:=zr [zv 2 (.mov (.c (.str [])))]
def qbfo:IC:=zr [zm 6 0,zv 7 (.bin .rem .no (.t 6) (zc 26)),zv 8 (.bin .add .no (zc 97) (.t 7)),zv 9 (.cvi .u8 (.t 8)),zv 10 (.bsl 1 [zI 9]),zv 11 (.cbs (.t 10)),zm 3 11]
def qbda:IC:=zr [zm 12 0,zv 13 (.bin .lss .no (.t 12) (zc 26))]
def qbum:IC:=zr [zm 14 3,zm 2 14]
def qbo4:IC:=zr [zm 15 3,zm 16 0,zv 17 (.bin .quo .no (.t 16) (zc 26)),zi 18 (zk 44 [zI 17]),zv 19 (.bin .add .no (.t 15) (.t 18)),zm 2 19]
def k0ct:IC:=(.seq qbeq (.seq (.seq qbjp (.cond (.t 5) (.seq qbey .ret) .skip)) (.seq qbfo (.seq (.seq qbda (.cond (.t 13) (.seq qbum .ret) .skip)) (.seq qbo4 .ret)))))
@[go_sem] def s0ct:List (RV×Co):=[(.t 2,.id)]
theorem c0ct:cFun Tryz.prog 128 = some (20,k0ct,s0ct):=by kernel_rfl

def qbga:IC:=zr [zv 2 zf]
def qbf6:IC:=zr [zm 3 0,zv 4 (.bin .geq .no (.t 3) (.c (.int .u8 97))),zm 5 4,zw 5 true 6 (zo 0),zw 5 true 7 (.bin .leq .no (.t 6) (.c (.int .u8 122))),zv 8 (.pick (.t 5) (.t 7) (.c (.bool false))),zm 9 8,zw 9 false 10 (zo 0),zw 9 false 11 (zq (.t 10) (.c (.int .u8 95))),zv 12 (.pick (.t 9) (.c (.bool true)) (.t 11)),zm 2 12]
def k0cg:IC:=(.seq qbga (.seq qbf6 .ret))
@[go_sem] def s0cg:List (RV×Co):=[(.t 2,.id)]
theorem c0cg:cFun Tryz.prog 131 = some (13,k0cg,s0cg):=by kernel_rfl

def qbzd:IC:=zr [zv 4 (.mov (zc 0))]
def qbxp:IC:=zr [zm 6 0,zv 7 (.len false (.t 6)),zv 8 (.mov (zc 0))]
def qbxk:IC:=zr [zv 9 (.bin .lss .no (.t 8) (.t 7))]
def qbyu:IC:=zr [zm 10 8,zm 5 10]
def qb08:IC:=zr [zm 11 1,zm 12 0,zm 13 5,zv 14 (.iad 1 (.t 12) (.t 13)),zv 15 (zg 1 14),zv 16 (zq (.t 11) (.t 15))]
def qb0e:IC:=zr [zm 17 5,zm 4 17]
def qbu2:IC:=zr [zv 18 (.bin .add .no (.t 8) (zc 1)),zm 8 18]
def qbza:IC:=(.seq qbxk (.seq (.cond (.t 9) .skip (.exit 0)) (.seq (.block 1 (.seq qbyu (.seq qb08 (.cond (.t 16) (.seq qb0e .ret) .skip)))) qbu2)))
def qbx8:IC:=zr [zv 4 (.mov (zc (-1)))]
def k0l:IC:=(.seq qbzd (.seq (.seq qbxp (.block 0 (.loop qbza))) (.seq qbx8 .ret)))
@[go_sem] def s0l:List (RV×Co):=[(.t 4,.id)]
theorem c0l:cFun Tryz.prog 132 = some (19,k0l,s0l):=by kernel_rfl

def qbrv:IC:=zr [zv 4 (.mov (zc 0)),zv 5 zf]
def qbst:IC:=zr [zm 6 0,zv 7 (.nck (.t 6)),zv 8 (zd 7 0),zv 9 (zg 1 8),zm 10 1,zi 11 (zk 143 [((.t 9),(.sl 4)),zI 10,((.c (.fn 144 [] [])),.id)]),zv 12 (zx 11 0),zv 13 (zx 11 1),zm 4 12,zm 5 13]
def k0ba:IC:=(.seq qbrv (.seq qbst .ret))
@[go_sem] def s0ba:List (RV×Co):=[(.t 4,.id),(.t 5,.id)]
theorem c0ba:cFun Tryz.prog 133 = some (14,k0ba,s0ba):=by kernel_rfl

def qbl7:IC:=zr [zi 1 (.box (.t 0)),zi 2 (.alo [(.str []),(.int .i64 0),.nils])]
def qbo6:IC:=zr [zv 6 (zd 1 2),zv 7 (zg 1 6),zv 8 (.len false (.t 7)),zi 9 (.mks 3 (.agg [(.str []),(.int .i64 0),.nils]) 48 (.t 8) (.t 8)),zm 3 9]
def qbe5:IC:=zr [zv 10 (zd 1 2),zv 11 (zg 1 10),zv 12 (.len false (.t 11)),zv 13 (.mov (zc 0))]
def qbj5:IC:=zr [zv 14 (.bin .lss .no (.t 13) (.t 12))]
def qboo:IC:=zr [zm 15 13,zv 16 (.iad 3 (.t 11) (.t 13)),zv 17 (zl 3 16),zi 5 (.alo [(.str []),(.int .i64 0),.nils]),zm 4 15,zn (.st 3 (.agg [.id,.id,(.sl 3)]) (.t 5) (.t 17))]
def qbkh:IC:=zr [zm 18 3,zm 19 4,zv 20 (zl 3 5),zi 21 (zk 135 [((.t 20),(.agg [.id,.id,(.sl 3)]))]),zv 22 (.iad 3 (.t 18) (.t 19)),zn (.st 3 (.agg [.id,.id,(.sl 3)]) (.t 22) (.t 21))]
def qbpl:IC:=zr [zv 23 (.bin .add .no (.t 13) (zc 1)),zm 13 23]
def qbek:IC:=(.seq qbj5 (.seq (.cond (.t 14) .skip (.exit 0)) (.seq (.block 1 (.seq qboo qbkh)) qbpl)))
def qbl1:IC:=zr [zm 24 3,zv 25 (zd 1 2),zn (.st 1 (.sl 3) (.t 25) (.t 24))]
def q5r:IC:=zr [zv 26 (zl 3 1),zn (.st 3 (.agg [.id,.id,(.sl 3)]) (.t 2) (.t 26))]
def k0bc:IC:=(.seq qbl7 (.seq qbo6 (.seq (.seq qbe5 (.block 0 (.loop qbek))) (.seq qbl1 (.seq q5r .ret)))))
@[go_sem] def s0bc:List (RV×Co):=[(.c true 3 2,(.agg [.id,.id,(.sl 3)]))]
theorem c0bc:cFun Tryz.prog 135 = some (27,k0bc,s0bc):=by kernel_rfl

def qbxg:IC:=zr [zi 4 (.alo [(.str []),(.int .i64 0),.nils]),zv 5 zf]
def qbva:IC:=zr [zm 8 0,zv 9 (.bin .eql .ptr (.t 8) (.c .nilp))]
def qbyn:IC:=zr [zv 10 (.bld [(.str []),(.int .i64 0),.nils] []),zn (.st 3 (.agg [.id,.id,(.sl 3)]) (.t 4) (.t 10)),zv 5 zf]
def qbwg:IC:=zr [zm 12 0,zm 13 1,zi 14 (zk 133 [zI 12,zI 13]),zm 11 14,zv 15 (zx 11 0),zv 16 (zx 11 1),zm 6 15,zm 7 16]
def qb0z:IC:=zr [zm 17 7,zv 18 (.un .not (.t 17))]
def qbwn:IC:=zr [zv 19 (.bld [(.str []),(.int .i64 0),.nils] []),zn (.st 3 (.agg [.id,.id,(.sl 3)]) (.t 4) (.t 19)),zv 5 zf]
def qb0q:IC:=zr [zm 20 0,zv 21 (.nck (.t 20)),zv 22 (zd 21 0),zv 23 (zg 1 22),zm 24 6,zv 25 (.iad 4 (.t 23) (.t 24)),zv 26 (zd 25 1),zv 27 (zl 3 26),zn (.st 3 (.agg [.id,.id,(.sl 3)]) (.t 4) (.t 27)),zv 5 (.mov (.c (.bool true)))]
def k0y:IC:=(.seq qbxg (.seq (.seq qbva (.cond (.t 9) (.seq qbyn .ret) .skip)) (.seq qbwg (.seq (.seq qb0z (.cond (.t 18) (.seq qbwn .ret) .skip)) (.seq qb0q .ret)))))
@[go_sem] def s0y:List (RV×Co):=[(.c true 3 4,(.agg [.id,.id,(.sl 3)])),(.t 5,.id)]
theorem c0y:cFun Tryz.prog 136 = some (28,k0y,s0y):=by kernel_rfl

def qbdf:IC:=zr [zi 1 (.box (.t 0)),zv 2 (.mov (zc 0))]
def qbir:IC:=zr [zi 3 (.alo [(.int .i64 0)]),zn (.st 1 .id (.t 3) (zc 0))]
def qbmv:IC:=zr [zv 4 (zl 3 1),zv 5 (.mfn 147 [] [(.t 3)]),zi 6 (zk 97 [((.t 4),(.agg [.id,.id,(.sl 3)])),((zc 1),.id),zI 5])]
def qboc:IC:=zr [zv 7 (zg 1 3),zm 2 7]
def k0bl:IC:=(.seq qbdf (.seq qbir (.seq qbmv (.seq qboc .ret))))
@[go_sem] def s0bl:List (RV×Co):=[(.t 2,.id)]
theorem c0bl:cFun Tryz.prog 137 = some (8,k0bl,s0bl):=by kernel_rfl

def qbfc:IC:=zr [zi 1 (.box (.t 0)),zv 2 (.mov (zc 0))]
def qbom:IC:=zr [zi 3 (.alo [(.int .i64 0)]),zn (.st 1 .id (.t 3) (zc 0))]
def qblj:IC:=zr [zv 4 (zl 3 1),zv 5 (.mfn 148 [] [(.t 3)]),zi 6 (zk 97 [((.t 4),(.agg [.id,.id,(.sl 3)])),((zc 1),.id),zI 5])]
def qbeo:IC:=zr [zv 7 (zg 1 3),zm 2 7]
def k0bm:IC:=(.seq qbfc (.seq qbom (.seq qblj (.seq qbeo .ret))))
@[go_sem] def s0bm:List (RV×Co):=[(.t 2,.id)]
theorem c0bm:cFun Tryz.prog 138 = some (8,k0bm,s0bm):=by kernel_rfl

def qbwi:IC:=zr [zv 6 (.mov (zc 0)),zv 7 zf]
def qbzt:IC:=zr [zm 12 0,zv 13 (.len false (.t 12)),zm 8 13]
def qb14:IC:=zr [zm 14 8,zv 9 (.mov (zc 0)),zm 10 14]
def qbx6:IC:=zr [zm 15 9,zm 16 10,zv 17 (.bin .lss .no (.t 15) (.t 16))]
def qby2:IC:=zr [zm 18 9,zm 19 10,zv 20 (.bin .add .no (.t 18) (.t 19)),zv 21 (.cvi .u64 (.t 20)),zv 22 (.bin .shr .no (.t 21) (.c (.int .u64 1))),zv 23 (.cvi .i64 (.t 22)),zm 11 23]
def qb1j:IC:=zr [zm 24 2,zm 25 0,zm 26 11,zv 27 (.iad 4 (.t 25) (.t 26)),zv 28 (zl 4 27),zm 29 1,zi 30 (.call (.t 24) [((.t 28),(.agg [.id,.id,.id,(.sl 3)])),zI 29]),zv 31 (.bin .lss .no (.t 30) (zc 0))]
def qbyi:IC:=zr [zm 32 11,zv 33 (.bin .add .no (.t 32) (zc 1)),zm 9 33]
def qb2b:IC:=zr [zm 34 11,zm 10 34]
def qbxu:IC:=(.seq (.seq qbx6 (.cond (.t 17) .skip (.exit 0))) (.block 1 (.seq qby2 (.seq qb1j (.cond (.t 31) qbyi qb2b)))))
def qbpy:IC:=zr [zm 35 9,zm 36 9,zm 37 8,zv 38 (.bin .lss .no (.t 36) (.t 37)),zm 39 38,zw 39 true 40 (zo 2),zw 39 true 41 (zo 0),zw 39 true 42 (zo 9),zw 39 true 43 (.iad 4 (.t 41) (.t 42)),zw 39 true 44 (zl 4 43),zw 39 true 45 (zo 1),zj 39 true 46 (.call (.t 40) [((.t 44),(.agg [.id,.id,.id,(.sl 3)])),zI 45]),zw 39 true 47 (zq (.t 46) (zc 0)),zv 48 (.pick (.t 39) (.t 47) (.c (.bool false))),zm 6 35,zm 7 48]
def k0z:IC:=(.seq qbwi (.seq qbzt (.seq qb14 (.seq (.block 0 (.loop qbxu)) (.seq qbpy .ret)))))
@[go_sem] def s0z:List (RV×Co):=[(.t 6,.id),(.t 7,.id)]
theorem c0z:cFun Tryz.prog 143 = some (49,k0z,s0z):=by kernel_rfl

def qbil:IC:=zr [zi 2 (.box (.t 0)),zv 4 (.mov (zc 0))]
def qbsq:IC:=zr [zv 6 (zd 2 0),zv 7 (zg 1 6),zm 8 1,zv 9 (.bin .lss .no (.t 7) (.t 8)),zm 5 9]
def qbme:IC:=zr [zv 4 (.mov (zc (-1)))]
def qbes:IC:=zr [zv 11 (zd 2 0),zv 12 (zg 1 11),zm 13 1,zv 14 (.bin .gtr .no (.t 12) (.t 13)),zm 10 14]
def qbg8:IC:=zr [zv 4 (.mov (zc 1))]
def qbp7:IC:=zr [zv 4 (.mov (zc 0))]
def k0bb:IC:=(.seq qbil (.seq (.block 0 (.seq qbsq (.cond (.t 5) (.seq qbme .ret) (.seq qbes (.cond (.t 10) (.seq qbg8 .ret) .skip))))) (.seq qbp7 .ret)))
@[go_sem] def s0bb:List (RV×Co):=[(.t 4,.id)]
theorem c0bb:cFun Tryz.prog 144 = some (15,k0bb,s0bb):=by kernel_rfl

def qbdg:IC:=zr [zi 3 (.box (.t 0)),zv 5 zf]
def qbsz:IC:=zr [zv 6 (zg 1 2),zv 7 (.bin .add .no (.t 6) (zc 1)),zn (.st 1 .id (.t 2) (.t 7))]
def qbri:IC:=zr [zv 5 (.mov (.c (.bool true)))]
def k0bi:IC:=(.seq qbdg (.seq qbsz (.seq qbri .ret)))
@[go_sem] def s0bi:List (RV×Co):=[(.t 5,.id)]
theorem c0bi:cFun Tryz.prog 147 = some (8,k0bi,s0bi):=by kernel_rfl

def qbiz:IC:=zr [zi 3 (.box (.t 0)),zv 5 zf]
def qbk0:IC:=zr [zv 6 (zg 1 2),zm 7 1,zv 8 (.mm true (.t 6) (.t 7)),zn (.st 1 .id (.t 2) (.t 8))]
def qbtd:IC:=zr [zv 5 (.mov (.c (.bool true)))]
def k0bj:IC:=(.seq qbiz (.seq qbk0 (.seq qbtd .ret)))
@[go_sem] def s0bj:List (RV×Co):=[(.t 5,.id)]
theorem c0bj:cFun Tryz.prog 148 = some (9,k0bj,s0bj):=by kernel_rfl

end Go.Proofs.YtgglaabljlhliaaGreat
