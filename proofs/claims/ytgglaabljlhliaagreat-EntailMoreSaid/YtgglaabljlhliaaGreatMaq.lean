/- A text of this proof. -/
import Derived.Test.YtgglaabljlhliaaGreatMah
import Derived.Test.YtgglaabljlhliaaGreatProg
set_option linter.unusedVariables false
set_option linter.unusedSimpArgs false
/- The compiled code of the functions. -/
namespace Go.Proofs.YtgglaabljlhliaaGreat
open Go Go.V
@[reducible] def zm (d s:Nat):GI:=⟨none,some d,.v (.mov (.t s))⟩
@[reducible] def zv (d:Nat) (x:IV):GI:=⟨none,some d,.v x⟩
@[reducible] def zi (d:Nat) (i:I):GI:=⟨none,some d,i⟩
@[reducible] def zn (i:I):GI:=⟨none,none,i⟩
@[reducible] def zw (j:Nat) (b:Bool) (d:Nat) (x:IV):GI:=⟨some (j,b),some d,.v x⟩
@[reducible] def zp (g:GI):GI×List Nat:=(g,[])
@[reducible] def zN:Co:=.agg [.id,.id,.id,.id,(.sl 5)]
@[reducible] def zC:Co:=.agg [(.sl 4),.id,.id,.id,.id,.id,.id,.id]
@[reducible] def zaN:I:=.alo [(.int .i64 0),(.int .i64 0),(.int .i64 0),(.str []),.nils]
@[reducible] def zaC:I:=.alo [.nils,(.int .i64 0),(.int .i64 0),(.int .i64 0),(.str []),(.int .i64 0),(.int .i64 0),(.int .i64 0)]
@[reducible] def zaT:I:=.alo [(.int .i64 0),(.int .i64 0),(.int .i64 0),(.str [])]
@[reducible] def zZ:AV:=.agg [(.int .i64 0),(.int .i64 0),(.int .i64 0),(.str []),.nils]
@[reducible] def zc (n:Int):Opd:=.c (.int .i64 n)
@[reducible] def zf:IV:=.mov (.c (.bool false))
@[reducible] def zr (l:List GI):IC:=.reg false l
@[reducible] def zk (f:FuncId) (l:List (Opd×Co)):I:=.call (.c (.fn f [] [])) l
@[reducible] def zA (n:Nat):Opd×Co:=(.t n,zN)
@[reducible] def zI (n:Nat):Opd×Co:=(.t n,.id)
@[reducible] def zx (n k:Nat):IV:=.ext (.t n) k
@[reducible] def zl (n k:Nat):IV:=.ld true n (.t k)
@[reducible] def zg (n k:Nat):IV:=.ld false n (.t k)
@[reducible] def zd (n k:Nat):IV:=.fad (.t n) k
@[reducible] def zq (a b:Opd):IV:=.bin .eql .no a b
@[reducible] def zo (n:Nat):IV:=.mov (.t n)
@[reducible] def zj (j:Nat) (b:Bool) (d:Nat) (i:I):GI:=⟨some (j,b),some d,i⟩
def qbdz:IC:=zr [zi 3 (.box (.t 0)),zi 4 (.box (.t 1)),zi 5 (.box (.t 2)),zv 6 zf]
def qbjq:IC:=.drw [zp (zv 16 (.aad 1 2 (.t 4) (zc 0))),zp (zv 17 (zg 1 16)),zp (zv 18 (.aad 1 2 (.t 4) (zc 1))),zp (zv 19 (zg 1 18)),zp (zm 7 17),zp (zm 8 19)]
def qbjr:IC:=zr [zv 20 (zl 3 3),zm 21 7,zv 22 (zl 4 5),zv 23 (.bsl 4 [((.t 22),(.agg [.id,.id,.id,(.sl 3)]))]),zi 24 (zk 6 [((.t 20),(.agg [(.sl 3),(.sl 3),(.sl 4)])),((.t 21),(.sl 4)),((.t 23),(.sl 4))]),zv 25 (.un .not (.t 24)),zm 26 25,zw 26 false 27 (zl 3 3),zw 26 false 28 (zo 8),zj 26 false 29 (zk 6 [((.t 27),(.agg [(.sl 3),(.sl 3),(.sl 4)])),((.t 28),(.sl 4)),((.c .nils),(.sl 4))]),zw 26 false 30 (.un .not (.t 29)),zv 31 (.pick (.t 26) (.c (.bool true)) (.t 30))]
def qbg5:IC:=zr [zi 32 (zk 7 []),zm 6 32]
def qbeq:IC:=zr [zv 34 (zl 3 3),zm 35 7,zv 36 (zl 4 5),zi 37 (zk 8 [((.t 34),(.agg [(.sl 3),(.sl 3),(.sl 4)])),((.t 35),(.sl 4)),((.t 36),(.agg [.id,.id,.id,(.sl 3)]))]),zm 33 37,zv 38 (zx 33 0),zv 39 (zx 33 1),zi 9 (.alo [(.int .i64 0),(.int .i64 0),.nils,.nils]),zn (.st 4 (.agg [.id,.id,(.sl 3),(.sl 4)]) (.t 9) (.t 38)),zm 10 39]
def qtu:IC:=.drw [zp (zv 41 (zl 3 3)),zp (zm 42 8),(zi 43 (.app 4 (.agg [(.str []),(.str []),(.int .i64 0),.nils]) 64 (.sl 4) (.c .nils) (.t 42)),[0]),zp (zm 44 7),(zi 45 (.app 4 (.agg [(.str []),(.str []),(.int .i64 0),.nils]) 64 (.sl 4) (.t 43) (.t 44)),[0]),(zv 46 (zl 4 5),[2,4]),(zi 47 (zk 8 [((.t 41),(.agg [(.sl 3),(.sl 3),(.sl 4)])),((.t 45),(.sl 4)),((.t 46),(.agg [.id,.id,.id,(.sl 3)]))]),[]),zp (zm 40 47),zp (zv 48 (zx 40 0)),zp (zv 49 (zx 40 1)),(zi 11 (.alo [(.int .i64 0),(.int .i64 0),.nils,.nils]),[0,2,4,5,6]),(zn (.st 4 (.agg [.id,.id,(.sl 3),(.sl 4)]) (.t 11) (.t 48)),[]),zp (zm 12 49)]
def q0e:IC:=.drw [zp (zv 51 (zl 3 3)),zp (zm 52 7),(zi 53 (.app 4 (.agg [(.str []),(.str []),(.int .i64 0),.nils]) 64 (.sl 4) (.c .nils) (.t 52)),[0]),zp (zm 54 8),(zi 55 (.app 4 (.agg [(.str []),(.str []),(.int .i64 0),.nils]) 64 (.sl 4) (.t 53) (.t 54)),[0]),(zv 56 (zl 4 5),[2,4]),(zi 57 (zk 8 [((.t 51),(.agg [(.sl 3),(.sl 3),(.sl 4)])),((.t 55),(.sl 4)),((.t 56),(.agg [.id,.id,.id,(.sl 3)]))]),[]),zp (zm 50 57),zp (zv 58 (zx 50 0)),zp (zv 59 (zx 50 1)),(zi 13 (.alo [(.int .i64 0),(.int .i64 0),.nils,.nils]),[0,2,4,5,6]),(zn (.st 4 (.agg [.id,.id,(.sl 3),(.sl 4)]) (.t 13) (.t 58)),[]),zp (zm 14 59)]
def qbnx:IC:=zr [zm 60 8,zi 61 (zk 9 [((.t 60),(.sl 4))]),zm 15 61]
def qbd1:IC:=zr [zm 62 10,zv 63 (.bin .neq .no (.t 62) (zc 0)),zm 64 63,zw 64 false 65 (zo 15),zw 64 false 66 (.un .not (.t 65)),zv 67 (.pick (.t 64) (.c (.bool true)) (.t 66)),zm 68 67,zw 68 false 69 (zo 12),zw 68 false 70 (zq (.t 69) (zc 0)),zw 68 false 71 (zo 70),zw 71 false 72 (zo 12),zw 71 false 73 (zq (.t 72) (zc 2)),zw 68 false 74 (.pick (.t 71) (.c (.bool true)) (.t 73)),zw 68 false 75 (zo 74),zw 75 true 76 (zo 14),zw 75 true 77 (zq (.t 76) (zc 0)),zw 75 true 78 (zo 77),zw 78 false 79 (zo 14),zw 78 false 80 (zq (.t 79) (zc 2)),zw 75 true 81 (.pick (.t 78) (.c (.bool true)) (.t 80)),zw 68 false 82 (.pick (.t 75) (.t 81) (.c (.bool false))),zv 83 (.pick (.t 68) (.c (.bool true)) (.t 82)),zm 84 83,zj 84 true 85 (zk 7 []),zv 86 (.pick (.t 84) (.t 85) (.c (.bool false))),zm 6 86]
def k0da:IC:=(.seq qbdz (.seq qbjq (.seq (.seq qbjr (.cond (.t 31) (.seq qbg5 .ret) .skip)) (.seq qbeq (.seq qtu (.seq q0e (.seq qbnx (.seq qbd1 .ret))))))))
@[go_sem] def s0da:List (RV×Co):=[(.t 6,.id)]
theorem c0da:cFun Tryz.prog 3 = some (87,k0da,s0da):=by kernel_rfl

def qbq3:IC:=zr [zi 3 (.box (.t 0)),zv 6 zf]
def qbk5:IC:=zr [zv 8 (zl 3 3),zi 9 (zk 19 [((.t 8),(.agg [(.sl 3),(.sl 3),(.sl 4)]))]),zv 10 (zq (.t 9) (zc 0)),zm 11 10,zw 11 false 12 (zo 1),zj 11 false 13 (zk 20 [((.t 12),(.sl 4))]),zw 11 false 14 (zq (.t 13) (zc 0)),zv 15 (.pick (.t 11) (.c (.bool true)) (.t 14)),zm 16 15,zw 16 false 17 (zo 2),zj 16 false 18 (zk 20 [((.t 17),(.sl 4))]),zw 16 false 19 (zq (.t 18) (zc 0)),zv 20 (.pick (.t 16) (.c (.bool true)) (.t 19))]
def qbr4:IC:=zr [zv 6 zf]
def qbe9:IC:=zr [zv 7 (.mov (zc 0))]
def qbtj:IC:=zr [zm 21 7,zm 22 2,zv 23 (.len false (.t 22)),zv 24 (.bin .lss .no (.t 21) (.t 23))]
def qbj7:IC:=zr [zm 27 2,zm 28 7,zv 29 (.iad 4 (.t 27) (.t 28)),zv 30 (zd 29 1),zv 31 (zl 3 30),zi 32 (zk 21 [((.t 31),(.agg [.id,.id,(.sl 3)]))]),zv 33 (.bin .gtr .no (.t 32) (zc 8)),zm 34 33,zw 34 true 35 (zo 2),zw 34 true 36 (zo 7),zw 34 true 37 (.iad 4 (.t 35) (.t 36)),zw 34 true 38 (zd 37 1),zw 34 true 39 (zl 3 38),zj 34 true 40 (zk 11 [((.t 39),(.agg [.id,.id,(.sl 3)]))]),zw 34 true 41 (.bin .gtr .no (.t 40) (zc 20)),zv 42 (.pick (.t 34) (.t 41) (.c (.bool false)))]
def qbmp:IC:=zr [zv 6 zf]
def qbny:IC:=zr [zm 25 7,zv 26 (.bin .add .no (.t 25) (zc 1)),zm 7 26]
def qbgi:IC:=(.seq (.seq qbtj (.cond (.t 24) .skip (.exit 0))) (.seq (.block 1 (.seq qbj7 (.cond (.t 42) (.seq qbmp .ret) .skip))) qbny))
def q7b:IC:=zr [zv 6 (.mov (.c (.bool true)))]
def k0eb:IC:=(.seq qbq3 (.seq (.seq qbk5 (.cond (.t 20) (.seq qbr4 .ret) .skip)) (.seq (.seq qbe9 (.block 0 (.loop qbgi))) (.seq q7b .ret))))
@[go_sem] def s0eb:List (RV×Co):=[(.t 6,.id)]
theorem c0eb:cFun Tryz.prog 6 = some (43,k0eb,s0eb):=by kernel_rfl

def qbfv:IC:=zr [zv 0 zf]
def qbpu:IC:=zr [zv 17 (.bld [(.str []),.nils,.nils] [(0,1,(.c (.str [69,113])))]),zv 18 (.bsl 1 [((.c (.str [69,113])),.id)]),zv 19 (.bld [(.str []),.nils,.nils] [(0,1,(.c (.str [79,114,100]))),(1,1,(.t 18))]),zv 20 (.bsl 3 [((.t 17),(.agg [.id,(.sl 1),(.sl 5)])),((.t 19),(.agg [.id,(.sl 1),(.sl 5)]))]),zv 21 (.bld [(.str []),(.str []),(.int .i64 0),.nils] [(0,1,(.c (.str [69,113])))]),zv 22 (.bsl 4 [((.t 21),(.agg [.id,.id,.id,(.sl 3)]))]),zv 23 (.bld [(.str []),(.str []),(.int .i64 0),.nils] [(0,1,(.c (.str [69,113]))),(1,1,(.c (.str [76]))),(2,1,(zc 1)),(3,1,(.t 22))]),zv 24 (.bld [(.str []),(.str []),(.int .i64 0),.nils] [(0,1,(.c (.str [69,113]))),(1,1,(.c (.str [73,110,116])))]),zv 25 (.bsl 4 [((.t 23),(.agg [.id,.id,.id,(.sl 4)])),((.t 24),(.agg [.id,.id,.id,(.sl 4)]))]),zv 26 (.bld [.nils,.nils,.nils] [(1,1,(.t 20)),(2,1,(.t 25))]),zi 1 (.alo [.nils,.nils,.nils]),zn (.st 3 (.agg [(.sl 3),(.sl 3),(.sl 4)]) (.t 1) (.t 26))]
def qbni:IC:=zr [zi 28 (zk 22 [((.c (.str [76,32,73,110,116])),.id)]),zm 27 28,zv 29 (zx 27 0),zv 30 (zx 27 1),zi 2 (.alo [(.str []),(.int .i64 0),.nils]),zn (.st 3 (.agg [.id,.id,(.sl 3)]) (.t 2) (.t 29)),zm 3 30]
def qbj4:IC:=zr [zi 32 (zk 22 [((.c (.str [76,32,97])),.id)]),zm 31 32,zv 33 (zx 31 0),zv 34 (zx 31 1),zi 4 (.alo [(.str []),(.int .i64 0),.nils]),zn (.st 3 (.agg [.id,.id,(.sl 3)]) (.t 4) (.t 33)),zm 5 34]
def qbr8:IC:=zr [zv 36 (zl 3 1),zv 37 (zl 3 2),zv 38 (.bld [(.str []),(.str []),(.int .i64 0),.nils] [(0,1,(.c (.str [69,113]))),(1,3,(.t 37))]),zi 39 (zk 8 [((.t 36),(.agg [(.sl 3),(.sl 3),(.sl 4)])),((.c .nils),(.sl 4)),((.t 38),(.agg [.id,.id,.id,(.sl 3)]))]),zm 35 39,zv 40 (zx 35 0),zv 41 (zx 35 1),zi 6 (.alo [(.int .i64 0),(.int .i64 0),.nils,.nils]),zn (.st 4 (.agg [.id,.id,(.sl 3),(.sl 4)]) (.t 6) (.t 40)),zm 7 41]
def qbgv:IC:=zr [zv 43 (zl 3 1),zv 44 (.bld [(.str []),(.str []),(.int .i64 0),.nils] [(0,1,(.c (.str [79,114,100])))]),zv 45 (.bsl 4 [((.t 44),(.agg [.id,.id,.id,(.sl 3)]))]),zv 46 (zl 3 4),zv 47 (.bld [(.str []),(.str []),(.int .i64 0),.nils] [(0,1,(.c (.str [69,113]))),(1,3,(.t 46))]),zi 48 (zk 8 [((.t 43),(.agg [(.sl 3),(.sl 3),(.sl 4)])),((.t 45),(.sl 4)),((.t 47),(.agg [.id,.id,.id,(.sl 3)]))]),zm 42 48,zv 49 (zx 42 0),zv 50 (zx 42 1),zi 8 (.alo [(.int .i64 0),(.int .i64 0),.nils,.nils]),zn (.st 4 (.agg [.id,.id,(.sl 3),(.sl 4)]) (.t 8) (.t 49)),zm 9 50]
def qbf2:IC:=zr [zv 52 (zl 3 1),zv 53 (zl 3 4),zv 54 (.bld [(.str []),(.str []),(.int .i64 0),.nils] [(0,1,(.c (.str [69,113]))),(1,3,(.t 53))]),zi 55 (zk 8 [((.t 52),(.agg [(.sl 3),(.sl 3),(.sl 4)])),((.c .nils),(.sl 4)),((.t 54),(.agg [.id,.id,.id,(.sl 3)]))]),zm 51 55,zv 56 (zx 51 0),zv 57 (zx 51 1),zi 10 (.alo [(.int .i64 0),(.int .i64 0),.nils,.nils]),zn (.st 4 (.agg [.id,.id,(.sl 3),(.sl 4)]) (.t 10) (.t 56)),zm 11 57]
def qbtu:IC:=zr [zv 59 (zl 3 1),zv 60 (.bld [(.str []),(.str []),(.int .i64 0),.nils] [(0,1,(.c (.str [79,114,100])))]),zv 61 (.bsl 4 [((.t 60),(.agg [.id,.id,.id,(.sl 3)]))]),zv 62 (.bld [(.str []),(.str []),(.int .i64 0),.nils] [(0,1,(.c (.str [69,113])))]),zi 63 (zk 23 [((.t 59),(.agg [(.sl 3),(.sl 3),(.sl 4)])),((.t 61),(.sl 4)),((.t 62),(.agg [.id,.id,.id,(.sl 3)]))]),zm 58 63,zv 64 (zx 58 0),zv 65 (zx 58 1),zi 12 (.alo [(.int .i64 0),(.int .i64 0),.nils,.nils]),zn (.st 4 (.agg [.id,.id,(.sl 3),(.sl 4)]) (.t 12) (.t 64)),zm 13 65]
def qbpq:IC:=zr [zv 67 (zl 3 1),zv 68 (zl 3 2),zv 69 (.bld [(.str []),(.str []),(.int .i64 0),.nils] [(0,1,(.c (.str [69,113]))),(1,3,(.t 68))]),zv 70 (zl 3 4),zv 71 (.bld [(.str []),(.str []),(.int .i64 0),.nils] [(0,1,(.c (.str [69,113]))),(1,3,(.t 70))]),zv 72 (.bsl 4 [((.t 69),(.agg [.id,.id,.id,(.sl 3)])),((.t 71),(.agg [.id,.id,.id,(.sl 3)]))]),zi 73 (zk 24 [((.t 67),(.agg [(.sl 3),(.sl 3),(.sl 4)])),((.c .nils),(.sl 4)),((.t 72),(.sl 4))]),zm 66 73,zv 74 (zx 66 0),zv 75 (zx 66 1),zv 76 (zx 66 2),zm 14 74,zm 15 75,zm 16 76]
def qbmo:IC:=zr [zv 77 (zl 4 6),zi 78 (zk 25 [((.t 77),(.agg [.id,.id,(.sl 3),(.sl 4)]))]),zv 79 (zq (.t 78) (.c (.str [64,48,40,64,49,41]))),zm 80 79,zw 80 true 81 (zo 7),zw 80 true 82 (zq (.t 81) (zc 0)),zv 83 (.pick (.t 80) (.t 82) (.c (.bool false))),zm 84 83,zw 84 true 85 (zl 4 8),zj 84 true 86 (zk 25 [((.t 85),(.agg [.id,.id,(.sl 3),(.sl 4)]))]),zw 84 true 87 (zq (.t 86) (.c (.str [64,48,40,35,48,46,48,41]))),zv 88 (.pick (.t 84) (.t 87) (.c (.bool false))),zm 89 88,zw 89 true 90 (zo 9),zw 89 true 91 (zq (.t 90) (zc 0)),zv 92 (.pick (.t 89) (.t 91) (.c (.bool false))),zm 93 92,zw 93 true 94 (zo 11),zw 93 true 95 (zq (.t 94) (zc 16)),zv 96 (.pick (.t 93) (.t 95) (.c (.bool false))),zm 97 96,zw 97 true 98 (zo 13),zv 99 (.pick (.t 97) (.t 98) (.c (.bool false))),zm 100 99,zw 100 true 101 (zo 14),zw 100 true 102 (.len false (.t 101)),zw 100 true 103 (zq (.t 102) (zc 0)),zv 104 (.pick (.t 100) (.t 103) (.c (.bool false))),zm 105 104,zw 105 true 106 (zo 15),zw 105 true 107 (zq (.t 106) (zc 1)),zv 108 (.pick (.t 105) (.t 107) (.c (.bool false))),zm 109 108,zw 109 true 110 (zo 16),zw 109 true 111 (zq (.t 110) (zc 16)),zv 112 (.pick (.t 109) (.t 111) (.c (.bool false))),zm 113 112,zw 113 true 114 (zl 3 1),zj 113 true 115 (zk 17 [((.t 114),(.agg [(.sl 3),(.sl 3),(.sl 4)])),((.c .nils),(.sl 4)),((.c .nils),(.sl 4))]),zv 116 (.pick (.t 113) (.t 115) (.c (.bool false))),zm 117 116,zw 117 true 118 (zl 3 1),zw 117 true 119 (.bld [(.str []),(.str []),(.int .i64 0),.nils] [(0,1,(.c (.str [69,113])))]),zw 117 true 120 (.bsl 4 [((.t 119),(.agg [.id,.id,.id,(.sl 3)]))]),zj 117 true 121 (zk 17 [((.t 118),(.agg [(.sl 3),(.sl 3),(.sl 4)])),((.c .nils),(.sl 4)),((.t 120),(.sl 4))]),zw 117 true 122 (.un .not (.t 121)),zv 123 (.pick (.t 117) (.t 122) (.c (.bool false))),zm 0 123]
def k0db:IC:=(.seq qbfv (.seq qbpu (.seq qbni (.seq qbj4 (.seq qbr8 (.seq qbgv (.seq qbf2 (.seq qbtu (.seq qbpq (.seq qbmo .ret))))))))))
@[go_sem] def s0db:List (RV×Co):=[(.t 0,.id)]
theorem c0db:cFun Tryz.prog 7 = some (124,k0db,s0db):=by kernel_rfl

def qbic:IC:=zr [zi 3 (.box (.t 0)),zi 5 (.box (.t 2)),zi 6 (.alo [(.int .i64 0),(.int .i64 0),.nils,.nils]),zv 7 (.mov (zc 0))]
def qblv:IC:=zr [zv 8 (zl 4 5),zi 9 (zk 26 [((.t 8),(.agg [.id,.id,.id,(.sl 3)]))]),zm 10 9,zw 10 false 11 (zo 1),zj 10 false 12 (zk 27 [((.t 11),(.sl 4)),((.c (.fn 26 [] [])),.id)]),zv 13 (.pick (.t 10) (.c (.bool true)) (.t 12)),zm 14 13,zw 14 false 15 (zl 3 3),zj 14 false 16 (zk 28 [((.t 15),(.agg [(.sl 3),(.sl 3),(.sl 4)]))]),zw 14 false 17 (.un .not (.t 16)),zv 18 (.pick (.t 14) (.c (.bool true)) (.t 17))]
def qbmr:IC:=zr [zv 19 (.bld [(.int .i64 0),(.int .i64 0),.nils,.nils] []),zn (.st 4 (.agg [.id,.id,(.sl 3),(.sl 4)]) (.t 6) (.t 19)),zv 7 (.mov (zc 1))]
def qboy:IC:=zr [zv 20 (zl 3 3),zm 21 1,zv 22 (zl 4 5),zi 23 (zk 29 [((.t 20),(.agg [(.sl 3),(.sl 3),(.sl 4)])),((.t 21),(.sl 4)),((.t 22),(.agg [.id,.id,.id,(.sl 3)]))]),zv 24 (zx 23 0),zv 25 (zx 23 1),zn (.st 4 (.agg [.id,.id,(.sl 3),(.sl 4)]) (.t 6) (.t 24)),zm 7 25]
def k0dg:IC:=(.seq qbic (.seq (.seq qblv (.cond (.t 18) (.seq qbmr .ret) .skip)) (.seq qboy .ret)))
@[go_sem] def s0dg:List (RV×Co):=[(.c true 4 6,(.agg [.id,.id,(.sl 3),(.sl 4)])),(.t 7,.id)]
theorem c0dg:cFun Tryz.prog 8 = some (26,k0dg,s0dg):=by kernel_rfl

def qbo7:IC:=zr [zv 2 zf]
def qbkb:IC:=zr [zv 3 (.mov (zc 0))]
def qbg4:IC:=zr [zm 4 3,zm 5 0,zv 6 (.len false (.t 5)),zv 7 (.bin .lss .no (.t 4) (.t 6))]
def qbej:IC:=zr [zm 10 0,zm 11 3,zv 12 (.iad 4 (.t 10) (.t 11)),zv 13 (zl 4 12),zi 14 (zk 13 [((.t 13),(.agg [.id,.id,.id,(.sl 3)]))]),zv 15 (.un .not (.t 14))]
def qbp5:IC:=zr [zv 2 zf]
def qbhz:IC:=zr [zm 8 3,zv 9 (.bin .add .no (.t 8) (zc 1)),zm 3 9]
def qbm2:IC:=(.seq (.seq qbg4 (.cond (.t 7) .skip (.exit 0))) (.seq (.block 1 (.seq qbej (.cond (.t 15) (.seq qbp5 .ret) .skip))) qbhz))
def qbhu:IC:=zr [zv 2 (.mov (.c (.bool true)))]
def k0cx:IC:=(.seq qbo7 (.seq (.seq qbkb (.block 0 (.loop qbm2))) (.seq qbhu .ret)))
@[go_sem] def s0cx:List (RV×Co):=[(.t 2,.id)]
theorem c0cx:cFun Tryz.prog 9 = some (16,k0cx,s0cx):=by kernel_rfl

def qbp3:IC:=zr [zi 1 (.box (.t 0)),zv 2 zf]
def qboc:IC:=zr [zv 3 (zl 3 1),zi 4 (zk 11 [((.t 3),(.agg [.id,.id,(.sl 3)]))]),zv 5 (.bin .leq .no (.t 4) (zc 4096)),zm 6 5,zw 6 true 7 (zl 3 1),zj 6 true 8 (zk 21 [((.t 7),(.agg [.id,.id,(.sl 3)]))]),zw 6 true 9 (.bin .leq .no (.t 8) (zc 100)),zv 10 (.pick (.t 6) (.t 9) (.c (.bool false))),zm 11 10,zw 11 true 12 (zl 3 1),zj 11 true 13 (zk 30 [((.t 12),(.agg [.id,.id,(.sl 3)]))]),zv 14 (.pick (.t 11) (.t 13) (.c (.bool false))),zm 2 14]
def k0bs:IC:=(.seq qbp3 (.seq qboc .ret))
@[go_sem] def s0bs:List (RV×Co):=[(.t 2,.id)]
theorem c0bs:cFun Tryz.prog 10 = some (15,k0bs,s0bs):=by kernel_rfl

def qbf3:IC:=zr [zi 1 (.box (.t 0)),zv 2 (.mov (zc 0))]
def qbia:IC:=zr [zv 3 (.mov (zc 1))]
def qbq6:IC:=zr [zv 4 (.mov (zc 0))]
def qbkg:IC:=zr [zm 5 4,zv 6 (zd 1 2),zv 7 (zg 1 6),zv 8 (.len false (.t 7)),zv 9 (.bin .lss .no (.t 5) (.t 8))]
def qbsv:IC:=zr [zm 12 3,zv 13 (zd 1 2),zv 14 (zg 1 13),zm 15 4,zv 16 (.iad 3 (.t 14) (.t 15)),zv 17 (zl 3 16),zi 18 (zk 11 [((.t 17),(.agg [.id,.id,(.sl 3)]))]),zv 19 (.bin .add .no (.t 12) (.t 18)),zm 3 19]
def qbj2:IC:=zr [zm 10 4,zv 11 (.bin .add .no (.t 10) (zc 1)),zm 4 11]
def qbmk:IC:=(.seq (.seq qbkg (.cond (.t 9) .skip (.exit 0))) (.seq (.block 1 qbsv) qbj2))
def qbng:IC:=zr [zm 20 3,zm 2 20]
def k0bn:IC:=(.seq qbf3 (.seq qbia (.seq (.seq qbq6 (.block 0 (.loop qbmk))) (.seq qbng .ret))))
@[go_sem] def s0bn:List (RV×Co):=[(.t 2,.id)]
theorem c0bn:cFun Tryz.prog 11 = some (21,k0bn,s0bn):=by kernel_rfl

def qbix:IC:=zr [zi 1 (.box (.t 0)),zv 2 zf]
def qbrs:IC:=zr [zv 3 (zd 1 0),zv 4 (zg 1 3),zi 5 (zk 32 [zI 4]),zm 6 5,zw 6 true 7 (zd 1 1),zw 6 true 8 (zl 3 7),zj 6 true 9 (zk 10 [((.t 8),(.agg [.id,.id,(.sl 3)]))]),zv 10 (.pick (.t 6) (.t 9) (.c (.bool false))),zm 2 10]
def k0cw:IC:=(.seq qbix (.seq qbrs .ret))
@[go_sem] def s0cw:List (RV×Co):=[(.t 2,.id)]
theorem c0cw:cFun Tryz.prog 13 = some (11,k0cw,s0cw):=by kernel_rfl

def qbg0:IC:=zr [zi 3 (.box (.t 0)),zv 6 zf]
def qbti:IC:=zr [zv 11 (zl 3 3),zm 12 1,zm 13 2,zi 14 (zk 24 [((.t 11),(.agg [(.sl 3),(.sl 3),(.sl 4)])),((.t 12),(.sl 4)),((.t 13),(.sl 4))]),zm 10 14,zv 15 (zx 10 0),zv 16 (zx 10 1),zv 17 (zx 10 2),zm 7 15,zm 8 16,zm 9 17]
def qbp7:IC:=zr [zm 18 9,zv 19 (zq (.t 18) (zc 0)),zm 6 19]
def k0de:IC:=(.seq qbg0 (.seq qbti (.seq qbp7 .ret)))
@[go_sem] def s0de:List (RV×Co):=[(.t 6,.id)]
theorem c0de:cFun Tryz.prog 17 = some (20,k0de,s0de):=by kernel_rfl

def qbq9:IC:=zr [zv 4 zf]
def qbpx:IC:=zr [zm 6 0,zv 7 (.len false (.t 6)),zm 8 1,zv 9 (.len false (.t 8)),zv 10 (.bin .neq .no (.t 7) (.t 9))]
def qbsh:IC:=zr [zv 4 zf]
def qbf0:IC:=zr [zv 5 (.mov (zc 0))]
def qbc5:IC:=zr [zm 11 5,zm 12 0,zv 13 (.len false (.t 12)),zv 14 (.bin .lss .no (.t 11) (.t 13))]
def qbdh:IC:=.drw [zp (zm 17 0),zp (zm 18 5),zp (zv 19 (.iad 4 (.t 17) (.t 18))),zp (zv 20 (zl 4 19)),zp (zm 21 1),zp (zm 22 5),zp (zv 23 (.iad 4 (.t 21) (.t 22))),zp (zv 24 (zl 4 23)),(zi 25 (zk 36 [((.t 20),(.agg [.id,.id,.id,(.sl 3)])),((.t 24),(.agg [.id,.id,.id,(.sl 3)]))]),[]),zp (zv 26 (.un .not (.t 25)))]
def qbgf:IC:=zr [zv 4 zf]
def qbrq:IC:=zr [zm 15 5,zv 16 (.bin .add .no (.t 15) (zc 1)),zm 5 16]
def qbq7:IC:=(.seq (.seq qbc5 (.cond (.t 14) .skip (.exit 0))) (.seq (.block 1 (.seq qbdh (.cond (.t 26) (.seq qbgf .ret) .skip))) qbrq))
def qba5:IC:=zr [zv 4 (.mov (.c (.bool true)))]
def k0cu:IC:=(.seq qbq9 (.seq (.seq qbpx (.cond (.t 10) (.seq qbsh .ret) .skip)) (.seq (.seq qbf0 (.block 0 (.loop qbq7))) (.seq qba5 .ret))))
@[go_sem] def s0cu:List (RV×Co):=[(.t 4,.id)]
theorem c0cu:cFun Tryz.prog 18 = some (27,k0cu,s0cu):=by kernel_rfl

def qbd7:IC:=zr [zi 1 (.box (.t 0)),zv 2 (.mov (zc 0))]
def qbgk:IC:=zr [zv 3 (zd 1 1),zv 4 (zg 1 3),zi 5 (zk 37 [((.t 4),(.sl 3))]),zv 6 (zq (.t 5) (zc 0)),zm 7 6,zw 7 false 8 (zd 1 2),zw 7 false 9 (zg 1 8),zj 7 false 10 (zk 38 [((.t 9),(.sl 4))]),zw 7 false 11 (zq (.t 10) (zc 0)),zv 12 (.pick (.t 7) (.c (.bool true)) (.t 11))]
def qbr2:IC:=zr [zv 2 (.mov (zc 0))]
def qbt4:IC:=zr [zv 2 (.mov (zc 1))]
def k0ea:IC:=(.seq qbd7 (.seq (.seq qbgk (.cond (.t 12) (.seq qbr2 .ret) .skip)) (.seq qbt4 .ret)))
@[go_sem] def s0ea:List (RV×Co):=[(.t 2,.id)]
theorem c0ea:cFun Tryz.prog 19 = some (13,k0ea,s0ea):=by kernel_rfl

def qbls:IC:=zr [zv 2 (.mov (zc 0))]
def qbtx:IC:=zr [zm 5 0,zv 6 (.len false (.t 5)),zv 7 (.bin .gtr .no (.t 6) (zc 30))]
def qbp1:IC:=zr [zv 2 (.mov (zc 0))]
def qbf7:IC:=zr [zv 3 (.mov (.c .nils))]
def qbld:IC:=zr [zv 4 (.mov (zc 0))]
def qbs5:IC:=zr [zm 8 4,zm 9 0,zv 10 (.len false (.t 9)),zv 11 (.bin .lss .no (.t 8) (.t 10))]
def qbqf:IC:=zr [zm 14 3,zm 15 0,zm 16 4,zv 17 (.iad 4 (.t 15) (.t 16)),zv 18 (zd 17 1),zv 19 (zl 3 18),zv 20 (.bsl 3 [((.t 19),(.agg [.id,.id,(.sl 3)]))]),zi 21 (.app 3 (.agg [(.str []),(.int .i64 0),.nils]) 48 (.sl 3) (.t 14) (.t 20)),zm 3 21]
def qbg1:IC:=zr [zm 12 4,zv 13 (.bin .add .no (.t 12) (zc 1)),zm 4 13]
def qbrg:IC:=(.seq (.seq qbs5 (.cond (.t 11) .skip (.exit 0))) (.seq (.block 1 qbqf) qbg1))
def q5q:IC:=zr [zm 22 3,zi 23 (zk 39 [((.t 22),(.sl 3))]),zm 2 23]
def k0cy:IC:=(.seq qbls (.seq (.seq qbtx (.cond (.t 7) (.seq qbp1 .ret) .skip)) (.seq qbf7 (.seq (.seq qbld (.block 0 (.loop qbrg))) (.seq q5q .ret)))))
@[go_sem] def s0cy:List (RV×Co):=[(.t 2,.id)]
theorem c0cy:cFun Tryz.prog 20 = some (24,k0cy,s0cy):=by kernel_rfl

def qbtn:IC:=zr [zi 1 (.box (.t 0)),zv 2 (.mov (zc 0))]
def qbll:IC:=zr [zv 3 (.mov (zc 0))]
def qbob:IC:=zr [zv 4 (.mov (zc 0))]
def qbs9:IC:=zr [zm 5 4,zv 6 (zd 1 2),zv 7 (zg 1 6),zv 8 (.len false (.t 7)),zv 9 (.bin .lss .no (.t 5) (.t 8))]
def qbo9:IC:=zr [zm 12 3,zv 13 (zd 1 2),zv 14 (zg 1 13),zm 15 4,zv 16 (.iad 3 (.t 14) (.t 15)),zv 17 (zl 3 16),zi 18 (zk 21 [((.t 17),(.agg [.id,.id,(.sl 3)]))]),zv 19 (.mm true (.t 12) (.t 18)),zm 3 19]
def qbli:IC:=zr [zm 10 4,zv 11 (.bin .add .no (.t 10) (zc 1)),zm 4 11]
def qbm0:IC:=(.seq (.seq qbs9 (.cond (.t 9) .skip (.exit 0))) (.seq (.block 1 qbo9) qbli))
def qbqh:IC:=zr [zm 20 3,zv 21 (.bin .add .no (.t 20) (zc 1)),zm 2 21]
def k0bo:IC:=(.seq qbtn (.seq qbll (.seq (.seq qbob (.block 0 (.loop qbm0))) (.seq qbqh .ret))))
@[go_sem] def s0bo:List (RV×Co):=[(.t 2,.id)]
theorem c0bo:cFun Tryz.prog 21 = some (22,k0bo,s0bo):=by kernel_rfl

def qbj0:IC:=zr [zi 2 (.alo [(.str []),(.int .i64 0),.nils]),zv 3 (.mov (zc 0))]
def qbh2:IC:=zr [zm 6 0,zv 7 (.bld [(.str []),(.int .i64 0),(.bool false)] [(0,1,(.t 6))]),zi 8 (.box (.t 7)),zm 4 8]
def qbtk:IC:=zr [zm 9 4,zi 10 (zk 40 [zI 9]),zi 5 (.alo [(.str []),(.int .i64 0),.nils]),zn (.st 3 (.agg [.id,.id,(.sl 3)]) (.t 5) (.t 10))]
def qboa:IC:=zr [zm 11 4,zv 12 (.nck (.t 11)),zv 13 (zd 12 2),zv 14 (zg 1 13),zm 15 14,zw 15 false 16 (zo 4),zw 15 false 17 (.nck (.t 16)),zw 15 false 18 (zd 17 0),zw 15 false 19 (zg 1 18),zw 15 false 20 (.bin .neq .no (.t 19) (.c (.str []))),zv 21 (.pick (.t 15) (.c (.bool true)) (.t 20)),zm 22 21,zw 22 false 23 (zl 3 5),zj 22 false 24 (zk 41 [((.t 23),(.agg [.id,.id,(.sl 3)]))]),zw 22 false 25 (zo 0),zw 22 false 26 (.bin .neq .no (.t 24) (.t 25)),zv 27 (.pick (.t 22) (.c (.bool true)) (.t 26))]
def qbhl:IC:=zr [zv 28 (.bld [(.str []),(.int .i64 0),.nils] []),zn (.st 3 (.agg [.id,.id,(.sl 3)]) (.t 2) (.t 28)),zv 3 (.mov (zc 5))]
def qbl4:IC:=zr [zv 29 (zl 3 5),zn (.st 3 (.agg [.id,.id,(.sl 3)]) (.t 2) (.t 29)),zv 3 (.mov (zc 0))]
def k0ee:IC:=(.seq qbj0 (.seq qbh2 (.seq qbtk (.seq (.seq qboa (.cond (.t 27) (.seq qbhl .ret) .skip)) (.seq qbl4 .ret)))))
@[go_sem] def s0ee:List (RV×Co):=[(.c true 3 2,(.agg [.id,.id,(.sl 3)])),(.t 3,.id)]
theorem c0ee:cFun Tryz.prog 22 = some (30,k0ee,s0ee):=by kernel_rfl

def qbyb:IC:=zr [zi 3 (.box (.t 0)),zi 5 (.box (.t 2)),zi 6 (.alo [(.int .i64 0),(.int .i64 0),.nils,.nils]),zv 7 zf]
def qbw3:IC:=zr [zm 15 1,zv 16 (.len false (.t 15)),zv 17 (.mov (zc 0))]
def qby6:IC:=zr [zv 18 (.bin .lss .no (.t 17) (.t 16))]
def qbw2:IC:=zr [zm 19 17,zv 20 (.iad 4 (.t 15) (.t 17)),zv 21 (zl 4 20),zi 9 (.alo [(.str []),(.str []),(.int .i64 0),.nils]),zm 8 19,zn (.st 4 (.agg [.id,.id,.id,(.sl 3)]) (.t 9) (.t 21))]
def qb1m:IC:=zr [zv 22 (zd 9 1),zv 23 (zl 3 22),zv 24 (zd 5 1),zv 25 (zl 3 24),zi 26 (zk 42 [((.t 23),(.agg [.id,.id,(.sl 3)])),((.t 25),(.agg [.id,.id,(.sl 3)]))]),zv 27 (.un .not (.t 26))]
def qbyj:IC:=zr [zv 29 (zd 3 1),zv 30 (zg 1 29),zv 31 (zd 9 0),zv 32 (zg 1 31),zv 33 (zd 5 0),zv 34 (zg 1 33),zi 35 (zk 43 [((.t 30),(.sl 3)),zI 32,zI 34]),zm 28 35,zv 36 (zx 28 0),zv 37 (zx 28 1),zm 10 36,zm 11 37]
def qbzs:IC:=zr [zm 38 11,zv 39 (.un .not (.t 38))]
def qb2u:IC:=zr [zm 40 8,zv 41 (.bld [(.int .i64 0),(.int .i64 0),.nils,.nils] [(0,1,(zc 1)),(1,1,(.t 40))]),zi 12 (.alo [(.int .i64 0),(.int .i64 0),.nils,.nils]),zn (.st 4 (.agg [.id,.id,(.sl 3),(.sl 4)]) (.t 12) (.t 41))]
def qbyp:IC:=zr [zm 42 10,zv 43 (.len false (.t 42)),zv 44 (.mov (zc 0))]
def qbhe:IC:=zr [zv 45 (.bin .lss .no (.t 44) (.t 43))]
def qbfu:IC:=zr [zv 46 (.iad 1 (.t 42) (.t 44)),zv 47 (zg 1 46),zm 14 47]
def qbjo:IC:=zr [zm 48 14,zv 49 (zl 4 12),zv 50 (.bsl 4 [((.t 49),(.agg [.id,.id,(.sl 3),(.sl 4)]))]),zv 51 (.bld [(.int .i64 0),(.int .i64 0),.nils,.nils] [(0,1,(zc 2)),(1,1,(.t 48)),(3,1,(.t 50))]),zn (.st 4 (.agg [.id,.id,(.sl 3),(.sl 4)]) (.t 12) (.t 51))]
def qzr:IC:=zr [zv 52 (.bin .add .no (.t 44) (zc 1)),zm 44 52]
def q3f:IC:=(.seq qbhe (.seq (.cond (.t 45) .skip (.exit 2)) (.seq (.block 3 (.seq qbfu qbjo)) qzr)))
def qbri:IC:=zr [zv 53 (zl 4 12),zn (.st 4 (.agg [.id,.id,(.sl 3),(.sl 4)]) (.t 6) (.t 53)),zv 7 (.mov (.c (.bool true)))]
def qbgc:IC:=zr [zv 54 (.bin .add .no (.t 17) (zc 1)),zm 17 54]
def qbwp:IC:=(.seq qby6 (.seq (.cond (.t 18) .skip (.exit 0)) (.seq (.block 1 (.seq qbw2 (.seq (.seq qb1m (.cond (.t 27) (.exit 1) .skip)) (.seq qbyj (.seq (.seq qbzs (.cond (.t 39) (.exit 1) .skip)) (.seq qb2u (.seq (.seq qbyp (.block 2 (.loop q3f))) (.seq qbri .ret)))))))) qbgc)))
def qbqg:IC:=zr [zv 55 (.bld [(.int .i64 0),(.int .i64 0),.nils,.nils] []),zn (.st 4 (.agg [.id,.id,(.sl 3),(.sl 4)]) (.t 6) (.t 55)),zv 7 zf]
def k0a:IC:=(.seq qbyb (.seq (.seq qbw3 (.block 0 (.loop qbwp))) (.seq qbqg .ret)))
@[go_sem] def s0a:List (RV×Co):=[(.c true 4 6,(.agg [.id,.id,(.sl 3),(.sl 4)])),(.t 7,.id)]
theorem c0a:cFun Tryz.prog 23 = some (56,k0a,s0a):=by kernel_rfl

def qbn7:IC:=zr [zi 3 (.box (.t 0)),zv 6 (.mov (.c .nils)),zv 7 (.mov (zc 0)),zv 8 (.mov (zc 0))]
def qbjl:IC:=zr [zv 9 (.mov (.c .nils))]
def qbtq:IC:=zr [zm 14 2,zv 15 (.len false (.t 14)),zv 16 (.mov (zc 0))]
def qbo5:IC:=zr [zv 17 (.bin .lss .no (.t 16) (.t 15))]
def qbor:IC:=zr [zm 18 16,zv 19 (.iad 4 (.t 14) (.t 16)),zv 20 (zl 4 19),zi 11 (.alo [(.str []),(.str []),(.int .i64 0),.nils]),zm 10 18,zn (.st 4 (.agg [.id,.id,.id,(.sl 3)]) (.t 11) (.t 20))]
def qbm6:IC:=zr [zv 22 (zl 3 3),zm 23 1,zv 24 (zl 4 11),zi 25 (zk 8 [((.t 22),(.agg [(.sl 3),(.sl 3),(.sl 4)])),((.t 23),(.sl 4)),((.t 24),(.agg [.id,.id,.id,(.sl 3)]))]),zm 21 25,zv 26 (zx 21 0),zv 27 (zx 21 1),zi 12 (.alo [(.int .i64 0),(.int .i64 0),.nils,.nils]),zn (.st 4 (.agg [.id,.id,(.sl 3),(.sl 4)]) (.t 12) (.t 26)),zm 13 27]
def qbdi:IC:=zr [zm 28 13,zv 29 (.bin .neq .no (.t 28) (zc 0))]
def qbn0:IC:=zr [zm 30 10,zm 31 13,zv 6 (.mov (.c .nils)),zm 7 30,zm 8 31]
def qbkl:IC:=zr [zm 32 9,zv 33 (zl 4 12),zv 34 (.bsl 4 [((.t 33),(.agg [.id,.id,(.sl 3),(.sl 4)]))]),zi 35 (.app 4 (.agg [(.int .i64 0),(.int .i64 0),.nils,.nils]) 64 (.sl 4) (.t 32) (.t 34)),zm 9 35]
def qbah:IC:=zr [zv 36 (.bin .add .no (.t 16) (zc 1)),zm 16 36]
def qbdn:IC:=(.seq qbo5 (.seq (.cond (.t 17) .skip (.exit 0)) (.seq (.block 1 (.seq qbor (.seq qbm6 (.seq (.seq qbdi (.cond (.t 29) (.seq qbn0 .ret) .skip)) qbkl)))) qbah)))
def q69:IC:=zr [zm 37 9,zm 6 37,zv 7 (.mov (zc 0)),zv 8 (.mov (zc 0))]
def k0dd:IC:=(.seq qbn7 (.seq qbjl (.seq (.seq qbtq (.block 0 (.loop qbdn))) (.seq q69 .ret))))
@[go_sem] def s0dd:List (RV×Co):=[(.t 6,(.sl 4)),(.t 7,.id),(.t 8,.id)]
theorem c0dd:cFun Tryz.prog 24 = some (38,k0dd,s0dd):=by kernel_rfl

def qbg3:IC:=zr [zi 1 (.box (.t 0)),zv 2 (.mov (.c (.str [])))]
def qbsd:IC:=zr [zv 8 (zd 1 0),zv 9 (zg 1 8),zv 10 (zq (.t 9) (zc 1)),zm 7 10]
def qs0:IC:=zr [zv 11 (zd 1 1),zv 12 (zg 1 11),zi 13 (zk 44 [zI 12]),zv 14 (.bin .add .no (.c (.str [35])) (.t 13)),zm 2 14]
def qbm5:IC:=zr [zv 16 (zd 1 0),zv 17 (zg 1 16),zv 18 (zq (.t 17) (zc 2)),zm 19 18,zw 19 true 20 (zd 1 3),zw 19 true 21 (zg 1 20),zw 19 true 22 (.len false (.t 21)),zw 19 true 23 (zq (.t 22) (zc 1)),zv 24 (.pick (.t 19) (.t 23) (.c (.bool false))),zm 15 24]
def qtx:IC:=.drw [zp (zv 25 (zd 1 3)),zp (zv 26 (zg 1 25)),zp (zv 27 (.iad 4 (.t 26) (zc 0))),zp (zv 28 (zl 4 27)),(zi 29 (zk 25 [((.t 28),(.agg [.id,.id,(.sl 3),(.sl 4)]))]),[]),(zv 30 (.bin .add .no (.t 29) (.c (.str [46]))),[]),zp (zv 31 (zd 1 1)),(zv 32 (zg 1 31),[4]),(zi 33 (zk 44 [zI 32]),[]),zp (zv 34 (.bin .add .no (.t 30) (.t 33))),zp (zm 2 34)]
def qbe8:IC:=zr [zv 36 (zd 1 0),zv 37 (zg 1 36),zv 38 (.bin .neq .no (.t 37) (zc 3)),zm 35 38]
def qua:IC:=zr [zv 2 (.mov (.c (.str [63])))]
def q3h:IC:=zr [zv 39 (zd 1 1),zv 40 (zg 1 39),zi 41 (zk 44 [zI 40]),zv 42 (.bin .add .no (.c (.str [64])) (.t 41)),zm 3 42]
def qbog:IC:=zr [zv 43 (zd 1 3),zv 44 (zg 1 43),zv 45 (.len false (.t 44)),zv 46 (zq (.t 45) (zc 0))]
def q4k:IC:=zr [zm 47 3,zm 2 47]
def qwj:IC:=zr [zv 48 (zd 1 3),zv 49 (zg 1 48),zv 50 (.len false (.t 49)),zi 51 (.mks 1 (.str []) 16 (.t 50) (.t 50)),zm 4 51]
def q6a:IC:=zr [zv 52 (zd 1 3),zv 53 (zg 1 52),zv 54 (.len false (.t 53)),zv 55 (.mov (zc 0))]
def q5m:IC:=zr [zv 56 (.bin .lss .no (.t 55) (.t 54))]
def q70:IC:=zr [zm 57 55,zv 58 (.iad 4 (.t 53) (.t 55)),zv 59 (zl 4 58),zi 6 (.alo [(.int .i64 0),(.int .i64 0),.nils,.nils]),zm 5 57,zn (.st 4 (.agg [.id,.id,(.sl 3),(.sl 4)]) (.t 6) (.t 59))]
def q6x:IC:=zr [zm 60 4,zm 61 5,zv 62 (zl 4 6),zi 63 (zk 25 [((.t 62),(.agg [.id,.id,(.sl 3),(.sl 4)]))]),zv 64 (.iad 1 (.t 60) (.t 61)),zn (.st 1 .id (.t 64) (.t 63))]
def q99:IC:=zr [zv 65 (.bin .add .no (.t 55) (zc 1)),zm 55 65]
def q76:IC:=(.seq q5m (.seq (.cond (.t 56) .skip (.exit 1)) (.seq (.block 2 (.seq q70 q6x)) q99)))
def q93:IC:=zr [zm 66 3,zv 67 (.bin .add .no (.t 66) (.c (.str [40]))),zm 68 4,zi 69 (zk 45 [((.t 68),(.sl 1)),((.c (.str [44,32])),.id)]),zv 70 (.bin .add .no (.t 67) (.t 69)),zv 71 (.bin .add .no (.t 70) (.c (.str [41]))),zm 2 71]
def k0dc:IC:=(.seq qbg3 (.seq (.block 0 (.seq qbsd (.cond (.t 7) (.seq qs0 .ret) (.seq qbm5 (.cond (.t 15) (.seq qtx .ret) (.seq qbe8 (.cond (.t 35) (.seq qua .ret) .skip))))))) (.seq q3h (.seq (.seq qbog (.cond (.t 46) (.seq q4k .ret) .skip)) (.seq qwj (.seq (.seq q6a (.block 1 (.loop q76))) (.seq q93 .ret)))))))
@[go_sem] def s0dc:List (RV×Co):=[(.t 2,.id)]
theorem c0dc:cFun Tryz.prog 25 = some (72,k0dc,s0dc):=by kernel_rfl

def qbsa:IC:=zr [zi 1 (.box (.t 0)),zv 2 zf]
def qbdd:IC:=zr [zv 3 (zl 4 1),zi 4 (zk 46 [((.t 3),(.agg [.id,.id,.id,(.sl 3)]))]),zv 5 (.un .not (.t 4)),zm 2 5]
def k0dm:IC:=(.seq qbsa (.seq qbdd .ret))
@[go_sem] def s0dm:List (RV×Co):=[(.t 2,.id)]
theorem c0dm:cFun Tryz.prog 26 = some (6,k0dm,s0dm):=by kernel_rfl

def qbov:IC:=zr [zv 4 zf]
def qbt5:IC:=zr [zm 5 0,zm 6 1,zi 7 (zk 47 [((.t 5),(.sl 4)),zI 6]),zv 8 (.bin .geq .no (.t 7) (zc 0)),zm 4 8]
def k0do:IC:=(.seq qbov (.seq qbt5 .ret))
@[go_sem] def s0do:List (RV×Co):=[(.t 4,.id)]
theorem c0do:cFun Tryz.prog 27 = some (9,k0do,s0do):=by kernel_rfl

def qbcl:IC:=zr [zi 1 (.box (.t 0)),zv 2 zf]
def qbqb:IC:=zr [zv 6 (zd 1 1),zv 7 (zg 1 6),zi 8 (zk 48 [((.t 7),(.sl 3))]),zm 5 8,zv 9 (zx 5 0),zv 10 (zx 5 1),zm 3 9,zm 4 10]
def qbmw:IC:=zr [zm 11 4,zv 12 (zq (.t 11) (zc 0)),zm 13 12,zw 13 true 14 (zd 1 2),zw 13 true 15 (zg 1 14),zj 13 true 16 (zk 49 [((.t 15),(.sl 4)),((.c (.fn 50 [] [])),.id)]),zw 13 true 17 (.un .not (.t 16)),zv 18 (.pick (.t 13) (.t 17) (.c (.bool false))),zm 2 18]
def k0ds:IC:=(.seq qbcl (.seq qbqb (.seq qbmw .ret)))
@[go_sem] def s0ds:List (RV×Co):=[(.t 2,.id)]
theorem c0ds:cFun Tryz.prog 28 = some (19,k0ds,s0ds):=by kernel_rfl

def qbg8:IC:=zr [zi 3 (.box (.t 0)),zi 5 (.box (.t 2)),zi 6 (.alo [(.int .i64 0),(.int .i64 0),.nils,.nils]),zi 7 (.alo [(.int .i64 0)])]
def qbr1:IC:=.dfr [zv 8 (.mfn 52 [] [(.t 6),(.t 7)])] (.t 8)
def qbs3:IC:=zr [zv 10 (zl 3 3),zm 11 1,zv 12 (zl 4 5),zi 13 (zk 53 [((.t 10),(.agg [(.sl 3),(.sl 3),(.sl 4)])),((.t 11),(.sl 4)),((.t 12),(.agg [.id,.id,.id,(.sl 3)]))]),zm 9 13,zv 14 (zx 9 0),zv 15 (zx 9 1),zn (.st 4 (.agg [.id,.id,(.sl 3),(.sl 4)]) (.t 6) (.t 14))]
def q2f:IC:=zr [zv 16 (zl 4 6),zn (.st 4 (.agg [.id,.id,(.sl 3),(.sl 4)]) (.t 6) (.t 16)),zn (.st 1 .id (.t 7) (zc 0))]
def k0df:IC:=(.seq qbg8 (.seq qbr1 (.seq qbs3 (.seq q2f .ret))))
@[go_sem] def s0df:List (RV×Co):=[(.c true 4 6,(.agg [.id,.id,(.sl 3),(.sl 4)])),(.c false 1 7,.id)]
theorem c0df:cFun Tryz.prog 29 = some (17,k0df,s0df):=by kernel_rfl

def qbpn:IC:=zr [zi 1 (.box (.t 0)),zv 2 zf]
def qbk1:IC:=zr [zv 3 (.mov (zc 0))]
def qbex:IC:=zr [zm 5 3,zv 6 (zd 1 2),zv 7 (zg 1 6),zv 8 (.len false (.t 7)),zv 9 (.bin .lss .no (.t 5) (.t 8))]
def qbo8:IC:=zr [zv 12 (zd 1 2),zv 13 (zg 1 12),zm 14 3,zv 15 (.iad 3 (.t 13) (.t 14)),zv 16 (zl 3 15),zi 17 (zk 30 [((.t 16),(.agg [.id,.id,(.sl 3)]))]),zv 18 (.un .not (.t 17))]
def qbe1:IC:=zr [zv 2 zf]
def qbq5:IC:=zr [zm 10 3,zv 11 (.bin .add .no (.t 10) (zc 1)),zm 3 11]
def qbpz:IC:=(.seq (.seq qbex (.cond (.t 9) .skip (.exit 0))) (.seq (.block 1 (.seq qbo8 (.cond (.t 18) (.seq qbe1 .ret) .skip))) qbq5))
def qbii:IC:=zr [zv 19 (zd 1 2),zv 20 (zg 1 19),zv 21 (.len false (.t 20)),zm 4 21]
def qbr7:IC:=zr [zv 23 (zd 1 0),zv 24 (zg 1 23),zv 25 (zq (.t 24) (.c (.str []))),zm 22 25]
def q7n:IC:=zr [zm 26 4,zv 27 (zq (.t 26) (zc 0)),zm 2 27]
def qbak:IC:=zr [zv 29 (zd 1 0),zv 30 (zg 1 29),zv 31 (zq (.t 30) (.c (.str [45,62]))),zm 28 31]
def q9j:IC:=zr [zm 32 4,zv 33 (zq (.t 32) (zc 2)),zm 34 33,zw 34 true 35 (zd 1 1),zw 34 true 36 (zg 1 35),zw 34 true 37 (zq (.t 36) (zc 0)),zv 38 (.pick (.t 34) (.t 37) (.c (.bool false))),zm 2 38]
def q6u:IC:=zr [zv 40 (zd 1 0),zv 41 (zg 1 40),zi 42 (zk 54 [zI 41]),zm 39 42]
def qba9:IC:=zr [zm 43 4,zv 44 (zq (.t 43) (zc 0)),zm 45 44,zw 45 true 46 (zd 1 1),zw 45 true 47 (zg 1 46),zw 45 true 48 (zq (.t 47) (zc 0)),zv 49 (.pick (.t 45) (.t 48) (.c (.bool false))),zm 2 49]
def q7t:IC:=zr [zv 50 (zd 1 0),zv 51 (zg 1 50),zi 52 (zk 32 [zI 51]),zm 53 52,zw 53 true 54 (zd 1 1),zw 53 true 55 (zg 1 54),zw 53 true 56 (zq (.t 55) (zc 0)),zv 57 (.pick (.t 53) (.t 56) (.c (.bool false))),zm 2 57]
def k0bp:IC:=(.seq qbpn (.seq (.seq qbk1 (.block 0 (.loop qbpz))) (.seq qbii (.seq (.block 2 (.seq qbr7 (.cond (.t 22) (.seq q7n .ret) (.seq qbak (.cond (.t 28) (.seq q9j .ret) (.seq q6u (.cond (.t 39) (.seq qba9 .ret) .skip))))))) (.seq q7t .ret)))))
@[go_sem] def s0bp:List (RV×Co):=[(.t 2,.id)]
theorem c0bp:cFun Tryz.prog 30 = some (58,k0bp,s0bp):=by kernel_rfl

def qbjm:IC:=zr [zv 2 zf]
def qboo:IC:=zr [zm 3 0,zv 4 (.bin .neq .no (.t 3) (.c (.str []))),zm 5 4,zw 5 true 6 (zo 0),zw 5 true 7 (.idx (.t 6) (zc 0)),zj 5 true 8 (zk 55 [zI 7]),zv 9 (.pick (.t 5) (.t 8) (.c (.bool false))),zm 10 9,zw 10 true 11 (zo 0),zj 10 true 12 (zk 56 [zI 11]),zv 13 (.pick (.t 10) (.t 12) (.c (.bool false))),zm 2 13]
def k0cp:IC:=(.seq qbjm (.seq qboo .ret))
@[go_sem] def s0cp:List (RV×Co):=[(.t 2,.id)]
theorem c0cp:cFun Tryz.prog 32 = some (14,k0cp,s0cp):=by kernel_rfl

def qbnl:IC:=zr [zi 2 (.box (.t 0)),zi 3 (.box (.t 1)),zv 4 zf]
def qbm4:IC:=zr [zv 5 (zd 2 0),zv 6 (zg 1 5),zv 7 (zd 3 0),zv 8 (zg 1 7),zv 9 (zq (.t 6) (.t 8)),zm 10 9,zw 10 true 11 (zd 2 1),zw 10 true 12 (zl 3 11),zw 10 true 13 (zd 3 1),zw 10 true 14 (zl 3 13),zj 10 true 15 (zk 61 [((.t 12),(.agg [.id,.id,(.sl 3)])),((.t 14),(.agg [.id,.id,(.sl 3)]))]),zv 16 (.pick (.t 10) (.t 15) (.c (.bool false))),zm 4 16]
def k0cz:IC:=(.seq qbnl (.seq qbm4 .ret))
@[go_sem] def s0cz:List (RV×Co):=[(.t 4,.id)]
theorem c0cz:cFun Tryz.prog 36 = some (17,k0cz,s0cz):=by kernel_rfl

def qbt0:IC:=zr [zv 2 (.mov (zc 0))]
def qbjg:IC:=zr [zm 4 0,zv 5 (.len false (.t 4)),zv 6 (.bin .gtr .no (.t 5) (zc 9))]
def qbcu:IC:=zr [zv 2 (.mov (zc 0))]
def qbq2:IC:=zr [zv 3 (.mov (zc 0))]
def qber:IC:=zr [zm 7 3,zm 8 0,zv 9 (.len false (.t 8)),zv 10 (.bin .lss .no (.t 7) (.t 9))]
def qbr9:IC:=zr [zm 13 0,zm 14 3,zv 15 (.iad 3 (.t 13) (.t 14)),zv 16 (zd 15 1),zv 17 (zg 1 16),zv 18 (.len false (.t 17)),zv 19 (.bin .gtr .no (.t 18) (zc 9))]
def qbt1:IC:=zr [zv 2 (.mov (zc 0))]
def qbkr:IC:=zr [zm 11 3,zv 12 (.bin .add .no (.t 11) (zc 1)),zm 3 12]
def qbs6:IC:=(.seq (.seq qber (.cond (.t 10) .skip (.exit 0))) (.seq (.block 1 (.seq qbr9 (.cond (.t 19) (.seq qbt1 .ret) .skip))) qbkr))
def q57:IC:=zr [zv 2 (.mov (zc 1))]
def k0dz:IC:=(.seq qbt0 (.seq (.seq qbjg (.cond (.t 6) (.seq qbcu .ret) .skip)) (.seq (.seq qbq2 (.block 0 (.loop qbs6))) (.seq q57 .ret))))
@[go_sem] def s0dz:List (RV×Co):=[(.t 2,.id)]
theorem c0dz:cFun Tryz.prog 37 = some (20,k0dz,s0dz):=by kernel_rfl

def qbmh:IC:=zr [zv 2 (.mov (zc 0))]
def qbpl:IC:=zr [zm 4 0,zv 5 (.len false (.t 4)),zv 6 (.bin .gtr .no (.t 5) (zc 12))]
def qbmq:IC:=zr [zv 2 (.mov (zc 0))]
def qbef:IC:=zr [zv 3 (.mov (zc 0))]
def qbgt:IC:=zr [zm 7 3,zm 8 0,zv 9 (.len false (.t 8)),zv 10 (.bin .lss .no (.t 7) (.t 9))]
def qbj6:IC:=zr [zm 13 0,zm 14 3,zv 15 (.iad 4 (.t 13) (.t 14)),zv 16 (zd 15 3),zv 17 (zg 1 16),zi 18 (zk 20 [((.t 17),(.sl 4))]),zv 19 (zq (.t 18) (zc 0)),zm 20 19,zw 20 false 21 (zo 0),zw 20 false 22 (zo 3),zw 20 false 23 (.iad 4 (.t 21) (.t 22)),zw 20 false 24 (zd 23 2),zw 20 false 25 (zg 1 24),zw 20 false 26 (.bin .gtr .no (.t 25) (zc 200)),zv 27 (.pick (.t 20) (.c (.bool true)) (.t 26))]
def qbkp:IC:=zr [zv 2 (.mov (zc 0))]
def qbfb:IC:=zr [zm 11 3,zv 12 (.bin .add .no (.t 11) (zc 1)),zm 3 12]
def qbkf:IC:=(.seq (.seq qbgt (.cond (.t 10) .skip (.exit 0))) (.seq (.block 1 (.seq qbj6 (.cond (.t 27) (.seq qbkp .ret) .skip))) qbfb))
def q51:IC:=zr [zv 2 (.mov (zc 1))]
def k0ec:IC:=(.seq qbmh (.seq (.seq qbpl (.cond (.t 6) (.seq qbmq .ret) .skip)) (.seq (.seq qbef (.block 0 (.loop qbkf))) (.seq q51 .ret))))
@[go_sem] def s0ec:List (RV×Co):=[(.t 2,.id)]
theorem c0ec:cFun Tryz.prog 38 = some (28,k0ec,s0ec):=by kernel_rfl

def qbrj:IC:=zr [zv 2 (.mov (zc 0))]
def qbdb:IC:=zr [zv 3 (.mov (zc 20000))]
def qbr3:IC:=zr [zv 4 (.mov (zc 0))]
def qbp9:IC:=zr [zm 5 4,zm 6 0,zv 7 (.len false (.t 6)),zv 8 (.bin .lss .no (.t 5) (.t 7))]
def qbet:IC:=zr [zm 11 0,zm 12 4,zv 13 (.iad 3 (.t 11) (.t 12)),zv 14 (zl 3 13),zm 15 3,zi 16 (zk 62 [((.t 14),(.agg [.id,.id,(.sl 3)])),zI 15,((zc 300),.id)]),zm 3 16]
def qbfd:IC:=zr [zm 9 4,zv 10 (.bin .add .no (.t 9) (zc 1)),zm 4 10]
def qbgr:IC:=(.seq (.seq qbp9 (.cond (.t 8) .skip (.exit 0))) (.seq (.block 1 qbet) qbfd))
def qbi2:IC:=zr [zm 17 3,zv 18 (.bin .lss .no (.t 17) (zc 0))]
def qbl8:IC:=zr [zv 2 (.mov (zc 0))]
def qbbc:IC:=zr [zv 2 (.mov (zc 1))]
def k0br:IC:=(.seq qbrj (.seq qbdb (.seq (.seq qbr3 (.block 0 (.loop qbgr))) (.seq (.seq qbi2 (.cond (.t 18) (.seq qbl8 .ret) .skip)) (.seq qbbc .ret)))))
@[go_sem] def s0br:List (RV×Co):=[(.t 2,.id)]
theorem c0br:cFun Tryz.prog 39 = some (19,k0br,s0br):=by kernel_rfl

def qbhv:IC:=zr [zi 1 (.box (.t 0)),zi 2 (.alo [(.str []),(.int .i64 0),.nils])]
def qbdk:IC:=zr [zv 4 (zg 1 1),zv 5 (.nck (.t 4)),zv 6 (zd 5 1),zv 7 (zg 1 6),zv 8 (.bin .add .no (.t 7) (zc 1)),zv 9 (.nck (.t 4)),zv 10 (zd 9 1),zn (.st 1 .id (.t 10) (.t 8))]
def qbq8:IC:=zr [zv 11 (zg 1 1),zv 12 (.nck (.t 11)),zv 13 (zd 12 1),zv 14 (zg 1 13),zv 15 (.bin .gtr .no (.t 14) (zc 200))]
def qbsx:IC:=zr [zv 16 (zg 1 1),zv 17 (.nck (.t 16)),zv 18 (zd 17 2),zn (.st 1 .id (.t 18) (.c (.bool true)))]
def qboh:IC:=.dfr [zv 19 (.mfn 63 [] [(.t 1)])] (.t 19)
def qbkc:IC:=zr [zv 20 (zg 1 1),zv 21 (.nck (.t 20)),zv 22 (zd 21 2),zv 23 (zg 1 22)]
def qbmu:IC:=zr [zv 24 (.bld [(.str []),(.int .i64 0),.nils] []),zn (.st 3 (.agg [.id,.id,(.sl 3)]) (.t 2) (.t 24))]
def qbhx:IC:=zr [zv 25 (zg 1 1),zi 26 (zk 64 [zI 25]),zi 3 (.alo [(.str []),(.int .i64 0),.nils]),zn (.st 3 (.agg [.id,.id,(.sl 3)]) (.t 3) (.t 26))]
def qbn8:IC:=zr [zv 27 (zg 1 1),zv 28 (.nck (.t 27)),zv 29 (zd 28 2),zv 30 (zg 1 29),zv 31 (.un .not (.t 30)),zm 32 31,zw 32 true 33 (zg 1 1),zw 32 true 34 (.nck (.t 33)),zw 32 true 35 (zd 34 0),zw 32 true 36 (zg 1 35),zj 32 true 37 (zk 65 [zI 36,((.c (.str [32,45,62,32])),.id)]),zw 32 true 38 (.un .not (.t 37)),zv 39 (.pick (.t 32) (.t 38) (.c (.bool false))),zm 40 39,zw 40 true 41 (zg 1 1),zj 40 true 42 (zk 66 [zI 41,((.c (.str [32])),.id)]),zv 43 (.pick (.t 40) (.t 42) (.c (.bool false)))]
def q6p:IC:=.drw [zp (zv 44 (zd 3 2)),zp (zv 45 (zg 1 44)),(zi 46 (zk 67 [((.t 45),(.sl 3))]),[]),(zv 47 (zg 1 1),[2]),(zi 48 (zk 64 [zI 47]),[]),(zv 49 (.bsl 3 [((.t 48),(.agg [.id,.id,(.sl 3)]))]),[]),(zi 50 (.app 3 (.agg [(.str []),(.int .i64 0),.nils]) 48 (.sl 3) (.t 46) (.t 49)),[]),zp (zv 51 (zd 3 2)),(zn (.st 1 (.sl 3) (.t 51) (.t 50)),[])]
def qo0:IC:=(.seq (.seq qbn8 (.cond (.t 43) .skip (.exit 0))) (.block 1 q6p))
def q6h:IC:=zr [zv 52 (zg 1 1),zv 53 (.nck (.t 52)),zv 54 (zd 53 2),zv 55 (zg 1 54),zv 56 (.un .not (.t 55)),zm 57 56,zw 57 true 58 (zg 1 1),zj 57 true 59 (zk 66 [zI 58,((.c (.str [32,45,62,32])),.id)]),zv 60 (.pick (.t 57) (.t 59) (.c (.bool false)))]
def qbas:IC:=.drw [zp (zv 61 (zl 3 3)),zp (zv 62 (zg 1 1)),(zi 63 (zk 40 [zI 62]),[0]),(zv 64 (.bsl 3 [((.t 61),(.agg [.id,.id,(.sl 3)])),((.t 63),(.agg [.id,.id,(.sl 3)]))]),[]),(zv 65 (.bld [(.str []),(.int .i64 0),.nils] [(0,1,(.c (.str [45,62]))),(2,1,(.t 64))]),[]),(zn (.st 3 (.agg [.id,.id,(.sl 3)]) (.t 2) (.t 65)),[])]
def q7d:IC:=zr [zv 66 (zl 3 3),zn (.st 3 (.agg [.id,.id,(.sl 3)]) (.t 2) (.t 66))]
def k0ed:IC:=(.seq qbhv (.seq (.seq qbdk (.seq qbq8 (.cond (.t 15) qbsx .skip))) (.seq qboh (.seq (.seq qbkc (.cond (.t 23) (.seq qbmu .ret) .skip)) (.seq qbhx (.seq (.block 0 (.loop qo0)) (.seq (.seq q6h (.cond (.t 60) (.seq qbas .ret) .skip)) (.seq q7d .ret))))))))
@[go_sem] def s0ed:List (RV×Co):=[(.c true 3 2,(.agg [.id,.id,(.sl 3)]))]
theorem c0ed:cFun Tryz.prog 40 = some (67,k0ed,s0ed):=by kernel_rfl

def qbk0:IC:=zr [zi 1 (.box (.t 0)),zv 2 (.mov (.c (.str [])))]
def qbm7:IC:=zr [zv 3 (zl 3 1),zi 4 (zk 68 [((.t 3),(.agg [.id,.id,(.sl 3)]))]),zv 5 (.un .not (.t 4))]
def qbm3:IC:=zr [zv 2 (.mov (.c (.str [])))]
def qbnf:IC:=zr [zv 6 (zl 3 1),zi 7 (zk 69 [((.t 6),(.agg [.id,.id,(.sl 3)]))]),zm 2 7]
def k0bg:IC:=(.seq qbk0 (.seq (.seq qbm7 (.cond (.t 5) (.seq qbm3 .ret) .skip)) (.seq qbnf .ret)))
@[go_sem] def s0bg:List (RV×Co):=[(.t 2,.id)]
theorem c0bg:cFun Tryz.prog 41 = some (8,k0bg,s0bg):=by kernel_rfl

def qbry:IC:=zr [zi 2 (.box (.t 0)),zi 3 (.box (.t 1)),zv 4 zf]
def qbcr:IC:=.drw [zp (zv 6 (zl 3 2)),(zi 7 (zk 70 [((.t 6),(.agg [.id,.id,(.sl 3)]))]),[]),(zv 8 (zl 3 3),[1]),(zi 9 (zk 70 [((.t 8),(.agg [.id,.id,(.sl 3)]))]),[]),(zv 10 (.bin .neq (.cells [.str,(.int .i64),(.int .i64)]) (.t 7) (.t 9)),[])]
def qbj9:IC:=zr [zv 4 zf]
def qbna:IC:=zr [zv 11 (zd 2 2),zv 12 (zg 1 11),zv 13 (.len false (.t 12)),zv 14 (.mov (zc 0))]
def qbsn:IC:=zr [zv 15 (.bin .lss .no (.t 14) (.t 13))]
def qblx:IC:=zr [zm 16 14,zm 5 16]
def qbi3:IC:=.drw [zp (zv 17 (zd 2 2)),zp (zv 18 (zg 1 17)),zp (zm 19 5),zp (zv 20 (.iad 3 (.t 18) (.t 19))),zp (zv 21 (zl 3 20)),zp (zv 22 (zd 3 2)),zp (zv 23 (zg 1 22)),zp (zm 24 5),zp (zv 25 (.iad 3 (.t 23) (.t 24))),zp (zv 26 (zl 3 25)),(zi 27 (zk 42 [((.t 21),(.agg [.id,.id,(.sl 3)])),((.t 26),(.agg [.id,.id,(.sl 3)]))]),[]),zp (zv 28 (.un .not (.t 27)))]
def qbrd:IC:=zr [zv 4 zf]
def qbjx:IC:=zr [zv 29 (.bin .add .no (.t 14) (zc 1)),zm 14 29]
def qbeo:IC:=(.seq qbsn (.seq (.cond (.t 15) .skip (.exit 0)) (.seq (.block 1 (.seq qblx (.seq qbi3 (.cond (.t 28) (.seq qbrd .ret) .skip)))) qbjx)))
def q4z:IC:=zr [zv 4 (.mov (.c (.bool true)))]
def k0bw:IC:=(.seq qbry (.seq (.seq qbcr (.cond (.t 10) (.seq qbj9 .ret) .skip)) (.seq (.seq qbna (.block 0 (.loop qbeo))) (.seq q4z .ret))))
@[go_sem] def s0bw:List (RV×Co):=[(.t 4,.id)]
theorem c0bw:cFun Tryz.prog 42 = some (30,k0bw,s0bw):=by kernel_rfl

def qbyk:IC:=zr [zv 6 (.mov (.c .nils)),zv 7 zf]
def qbzp:IC:=zr [zm 16 0,zm 17 1,zi 18 (zk 71 [((.t 16),(.sl 3)),zI 17]),zm 19 0,zm 20 2,zi 21 (zk 71 [((.t 19),(.sl 3)),zI 20]),zm 8 18,zm 9 21]
def qb1t:IC:=zr [zm 22 8,zv 23 (.bin .lss .no (.t 22) (zc 0)),zm 24 23,zw 24 false 25 (zo 9),zw 24 false 26 (.bin .lss .no (.t 25) (zc 0)),zv 27 (.pick (.t 24) (.c (.bool true)) (.t 26)),zm 28 27,zw 28 false 29 (zo 0),zj 28 false 30 (zk 72 [((.t 29),(.sl 3))]),zw 28 false 31 (.un .not (.t 30)),zv 32 (.pick (.t 28) (.c (.bool true)) (.t 31))]
def qbws:IC:=zr [zv 6 (.mov (.c .nils)),zv 7 zf]
def qbbx:IC:=zr [zm 33 0,zv 34 (.len false (.t 33)),zi 35 (.mks 1 (.bool false) 1 (.t 34) (.t 34)),zm 10 35]
def qb11:IC:=zr [zm 36 8,zv 37 (.bld [(.int .i64 0),.nils] [(0,1,(.t 36))]),zv 38 (.bsl 2 [((.t 37),(.agg [.id,(.sl 1)]))]),zm 11 38]
def qbzo:IC:=zr [zv 12 (.mov (zc 0))]
def qby3:IC:=zr [zm 39 12,zm 40 11,zv 41 (.len false (.t 40)),zv 42 (.bin .lss .no (.t 39) (.t 41))]
def qb02:IC:=zr [zm 45 11,zm 46 12,zv 47 (.iad 2 (.t 45) (.t 46)),zv 48 (zl 2 47),zi 13 (.alo [(.int .i64 0),.nils]),zn (.st 2 (.agg [.id,(.sl 1)]) (.t 13) (.t 48))]
def qbfs:IC:=zr [zv 49 (zd 13 0),zv 50 (zg 1 49),zm 51 9,zv 52 (zq (.t 50) (.t 51))]
def qbcm:IC:=zr [zv 53 (zd 13 1),zv 54 (zg 1 53),zm 6 54,zv 7 (.mov (.c (.bool true)))]
def qbe3:IC:=zr [zm 55 10,zv 56 (zd 13 0),zv 57 (zg 1 56),zv 58 (.iad 1 (.t 55) (.t 57)),zv 59 (zg 1 58)]
def qbdr:IC:=zr [zm 60 10,zv 61 (zd 13 0),zv 62 (zg 1 61),zv 63 (.iad 1 (.t 60) (.t 62)),zn (.st 1 .id (.t 63) (.c (.bool true)))]
def qbcx:IC:=zr [zm 64 0,zv 65 (zd 13 0),zv 66 (zg 1 65),zv 67 (.iad 3 (.t 64) (.t 66)),zv 68 (zd 67 1),zv 69 (zg 1 68),zv 70 (.len false (.t 69)),zv 71 (.mov (zc 0))]
def qbhs:IC:=zr [zv 72 (.bin .lss .no (.t 71) (.t 70))]
def qbif:IC:=zr [zm 73 71,zv 74 (.iad 1 (.t 69) (.t 71)),zv 75 (zg 1 74),zm 14 73,zm 15 75]
def qbqq:IC:=.drw [zp (zm 76 11),zp (zm 77 0),zp (zm 78 15),(zi 79 (zk 71 [((.t 77),(.sl 3)),zI 78]),[]),zp (zv 80 (zd 13 1)),(zv 81 (zg 1 80),[3]),(zi 82 (zk 73 [((.t 81),(.sl 1))]),[]),zp (zm 83 14),(zv 84 (.bsl 1 [zI 83]),[3,6]),zp (zi 85 (.app 1 (.int .i64 0) 8 (.sl 1) (.t 82) (.t 84))),(zv 86 (.bld [(.int .i64 0),.nils] [(0,1,(.t 79)),(1,1,(.t 85))]),[]),(zv 87 (.bsl 2 [((.t 86),(.agg [.id,(.sl 1)]))]),[]),(zi 88 (.app 2 (.agg [(.int .i64 0),.nils]) 32 (.sl 2) (.t 76) (.t 87)),[]),zp (zm 11 88)]
def qbkh:IC:=zr [zv 89 (.bin .add .no (.t 71) (zc 1)),zm 71 89]
def q07:IC:=(.seq qbhs (.seq (.cond (.t 72) .skip (.exit 2)) (.seq (.block 3 (.seq qbif qbqq)) qbkh)))
def qbk2:IC:=zr [zm 43 12,zv 44 (.bin .add .no (.t 43) (zc 1)),zm 12 44]
def qb2i:IC:=(.seq (.seq qby3 (.cond (.t 42) .skip (.exit 0))) (.seq (.block 1 (.seq qb02 (.seq (.seq qbfs (.cond (.t 52) (.seq qbcm .ret) .skip)) (.seq (.seq qbe3 (.cond (.t 59) (.exit 1) .skip)) (.seq qbdr (.seq qbcx (.block 2 (.loop q07)))))))) qbk2))
def qbpa:IC:=zr [zv 6 (.mov (.c .nils)),zv 7 zf]
def k0c:IC:=(.seq qbyk (.seq qbzp (.seq (.seq qb1t (.cond (.t 32) (.seq qbws .ret) .skip)) (.seq qbbx (.seq qb11 (.seq (.seq qbzo (.block 0 (.loop qb2i))) (.seq qbpa .ret)))))))
@[go_sem] def s0c:List (RV×Co):=[(.t 6,(.sl 1)),(.t 7,.id)]
theorem c0c:cFun Tryz.prog 43 = some (90,k0c,s0c):=by kernel_rfl

def qbop:IC:=zr [zv 2 (.mov (.c (.str [])))]
def qbmn:IC:=zr [zm 6 0,zv 7 (.cvi .u64 (.t 6)),zm 3 7]
def qbjy:IC:=zr [zm 8 0,zv 9 (.bin .lss .no (.t 8) (zc 0))]
def qbky:IC:=zr [zm 10 3,zv 11 (.un .neg (.t 10)),zm 3 11]
def qble:IC:=zr [zi 4 (.alo [(.int .u8 0),(.int .u8 0),(.int .u8 0),(.int .u8 0),(.int .u8 0),(.int .u8 0),(.int .u8 0),(.int .u8 0),(.int .u8 0),(.int .u8 0),(.int .u8 0),(.int .u8 0),(.int .u8 0),(.int .u8 0),(.int .u8 0),(.int .u8 0),(.int .u8 0),(.int .u8 0),(.int .u8 0),(.int .u8 0)])]
def qbmg:IC:=zr [zv 5 (.mov (zc 20))]
def qbly:IC:=zr [zm 12 5,zv 13 (.bin .sub .no (.t 12) (zc 1)),zm 5 13]
def qblo:IC:=zr [zm 14 5,zm 15 3,zv 16 (.bin .rem .no (.t 15) (.c (.int .u64 10))),zv 17 (.bin .add .no (.c (.int .u64 48)) (.t 16)),zv 18 (.cvi .u8 (.t 17)),zv 19 (.aad 1 20 (.t 4) (.t 14)),zn (.st 1 .id (.t 19) (.t 18))]
def qbty:IC:=zr [zm 20 3,zv 21 (.bin .quo .no (.t 20) (.c (.int .u64 10))),zm 3 21]
def q6y:IC:=zr [zm 22 3,zv 23 (zq (.t 22) (.c (.int .u64 0)))]
def qbpy:IC:=(.block 1 (.seq qbly (.seq qblo (.seq qbty (.seq q6y (.cond (.t 23) (.exit 0) .skip))))))
def q40:IC:=zr [zm 24 0,zv 25 (.bin .lss .no (.t 24) (zc 0))]
def q7w:IC:=zr [zm 26 5,zv 27 (.sla 20 (.t 4) (.t 26)),zv 28 (.cbs (.t 27)),zv 29 (.bin .add .no (.c (.str [45])) (.t 28)),zm 2 29]
def q5u:IC:=zr [zm 30 5,zv 31 (.sla 20 (.t 4) (.t 30)),zv 32 (.cbs (.t 31)),zm 2 32]
def k0cs:IC:=(.seq qbop (.seq qbmn (.seq (.seq qbjy (.cond (.t 9) qbky .skip)) (.seq qble (.seq qbmg (.seq (.block 0 (.loop qbpy)) (.seq (.seq q40 (.cond (.t 25) (.seq q7w .ret) .skip)) (.seq q5u .ret))))))))
@[go_sem] def s0cs:List (RV×Co):=[(.t 2,.id)]
theorem c0cs:cFun Tryz.prog 44 = some (33,k0cs,s0cs):=by kernel_rfl

def qbpk:IC:=zr [zi 1 (.box (.t 0)),zv 2 zf]
def qbkj:IC:=zr [zv 3 (zd 1 0),zv 4 (zg 1 3),zi 5 (zk 77 [zI 4]),zm 6 5,zw 6 true 7 (zd 1 1),zw 6 true 8 (zl 3 7),zj 6 true 9 (zk 68 [((.t 8),(.agg [.id,.id,(.sl 3)]))]),zv 10 (.pick (.t 6) (.t 9) (.c (.bool false))),zm 2 10]
def k0cv:IC:=(.seq qbpk (.seq qbkj .ret))
@[go_sem] def s0cv:List (RV×Co):=[(.t 2,.id)]
theorem c0cv:cFun Tryz.prog 46 = some (11,k0cv,s0cv):=by kernel_rfl

def qbek:IC:=zr [zv 4 (.mov (zc 0))]
def qbg2:IC:=zr [zm 6 0,zv 7 (.len false (.t 6)),zv 8 (.mov (zc 0))]
def qbd3:IC:=zr [zv 9 (.bin .lss .no (.t 8) (.t 7))]
def qbox:IC:=zr [zm 10 8,zm 5 10]
def qbl3:IC:=zr [zm 11 1,zm 12 0,zm 13 5,zv 14 (.iad 4 (.t 12) (.t 13)),zv 15 (zl 4 14),zi 16 (.call (.t 11) [((.t 15),(.agg [.id,.id,.id,(.sl 3)]))])]
def qbrl:IC:=zr [zm 17 5,zm 4 17]
def qbot:IC:=zr [zv 18 (.bin .add .no (.t 8) (zc 1)),zm 8 18]
def qbcg:IC:=(.seq qbd3 (.seq (.cond (.t 9) .skip (.exit 0)) (.seq (.block 1 (.seq qbox (.seq qbl3 (.cond (.t 16) (.seq qbrl .ret) .skip)))) qbot)))
def qbi7:IC:=zr [zv 4 (.mov (zc (-1)))]
def k0dn:IC:=(.seq qbek (.seq (.seq qbg2 (.block 0 (.loop qbcg))) (.seq qbi7 .ret)))
@[go_sem] def s0dn:List (RV×Co):=[(.t 4,.id)]
theorem c0dn:cFun Tryz.prog 47 = some (19,k0dn,s0dn):=by kernel_rfl

def qbv9:IC:=zr [zv 2 (.mov (zc 0)),zv 3 (.mov (zc 0))]
def qbxm:IC:=zr [zm 8 0,zv 9 (.len false (.t 8)),zv 10 (.mov (zc 0))]
def qb1h:IC:=zr [zv 11 (.bin .lss .no (.t 10) (.t 9))]
def qbva:IC:=zr [zm 12 10,zm 4 12]
def qbye:IC:=zr [zm 13 0,zm 14 0,zm 15 4,zv 16 (.iad 3 (.t 14) (.t 15)),zv 17 (zd 16 0),zv 18 (zg 1 17),zi 19 (zk 71 [((.t 13),(.sl 3)),zI 18]),zm 20 4,zv 21 (.bin .lss .no (.t 19) (.t 20))]
def qb0c:IC:=zr [zm 22 4,zm 2 22,zv 3 (.mov (zc 6))]
def qb2o:IC:=zr [zv 23 (.bin .add .no (.t 10) (zc 1)),zm 10 23]
def qbx4:IC:=(.seq qb1h (.seq (.cond (.t 11) .skip (.exit 0)) (.seq (.block 1 (.seq qbva (.seq qbye (.cond (.t 21) (.seq qb0c .ret) .skip)))) qb2o)))
def qbb5:IC:=zr [zm 24 0,zv 25 (.len false (.t 24)),zv 26 (.mov (zc 0))]
def qbmj:IC:=zr [zv 27 (.bin .lss .no (.t 26) (.t 25))]
def qbs1:IC:=zr [zm 28 26,zm 5 28]
def qbi9:IC:=zr [zm 29 0,zm 30 0,zm 31 5,zv 32 (.iad 3 (.t 30) (.t 31)),zv 33 (zl 3 32),zi 34 (zk 78 [((.t 29),(.sl 3)),((.t 33),(.agg [.id,(.sl 1),(.sl 5)]))]),zv 35 (.un .not (.t 34))]
def qbci:IC:=zr [zm 36 5,zm 2 36,zv 3 (.mov (zc 7))]
def qbgz:IC:=zr [zv 37 (.bin .add .no (.t 26) (zc 1)),zm 26 37]
def qbew:IC:=(.seq qbmj (.seq (.cond (.t 27) .skip (.exit 2)) (.seq (.block 3 (.seq qbs1 (.seq qbi9 (.cond (.t 35) (.seq qbci .ret) .skip)))) qbgz)))
def q0m:IC:=zr [zm 38 0,zi 39 (zk 79 [((.t 38),(.sl 3))]),zm 6 39]
def qbdm:IC:=zr [zm 40 0,zv 41 (.len false (.t 40)),zv 42 (.mov (zc 0))]
def qbs8:IC:=zr [zv 43 (.bin .lss .no (.t 42) (.t 41))]
def qbi6:IC:=zr [zm 44 42,zm 7 44]
def qbih:IC:=zr [zm 45 0,zv 46 (.len false (.t 45)),zm 47 6,zm 48 7,zi 49 (zk 81 [zI 46,((.t 47),(.sl 2)),zI 48]),zm 50 7,zi 51 (zk 80 [((.t 49),(.sl 1)),zI 50])]
def qbm9:IC:=zr [zm 52 7,zm 2 52,zv 3 (.mov (zc 9))]
def qbco:IC:=zr [zv 53 (.bin .add .no (.t 42) (zc 1)),zm 42 53]
def qbsl:IC:=(.seq qbs8 (.seq (.cond (.t 43) .skip (.exit 4)) (.seq (.block 5 (.seq qbi6 (.seq qbih (.cond (.t 51) (.seq qbm9 .ret) .skip)))) qbco)))
def qbo3:IC:=zr [zv 2 (.mov (zc 0)),zv 3 (.mov (zc 0))]
def k0e:IC:=(.seq qbv9 (.seq (.seq qbxm (.block 0 (.loop qbx4))) (.seq (.seq qbb5 (.block 2 (.loop qbew))) (.seq q0m (.seq (.seq qbdm (.block 4 (.loop qbsl))) (.seq qbo3 .ret))))))
@[go_sem] def s0e:List (RV×Co):=[(.t 2,.id),(.t 3,.id)]
theorem c0e:cFun Tryz.prog 48 = some (54,k0e,s0e):=by kernel_rfl

def qbi8:IC:=zr [zv 4 zf]
def qbdw:IC:=zr [zm 5 0,zm 6 1,zi 7 (zk 82 [((.t 5),(.sl 4)),zI 6]),zv 8 (.bin .geq .no (.t 7) (zc 0)),zm 4 8]
def k0dq:IC:=(.seq qbi8 (.seq qbdw .ret))
@[go_sem] def s0dq:List (RV×Co):=[(.t 4,.id)]
theorem c0dq:cFun Tryz.prog 49 = some (9,k0dq,s0dq):=by kernel_rfl

def qbcf:IC:=zr [zi 1 (.box (.t 0)),zv 2 zf]
def qbc6:IC:=zr [zv 3 (zl 4 1),zi 4 (zk 51 [((.t 3),(.agg [.id,.id,.id,(.sl 4)]))]),zv 5 (.bin .neq .no (.t 4) (zc 0)),zm 2 5]
def k0dr:IC:=(.seq qbcf (.seq qbc6 .ret))
@[go_sem] def s0dr:List (RV×Co):=[(.t 2,.id)]
theorem c0dr:cFun Tryz.prog 50 = some (6,k0dr,s0dr):=by kernel_rfl

def qbvq:IC:=zr [zi 1 (.box (.t 0)),zv 2 (.mov (zc 0))]
def qbv8:IC:=zr [zv 6 (zd 1 0),zv 7 (zg 1 6),zi 8 (zk 77 [zI 7]),zm 9 8,zw 9 true 10 (zd 1 1),zw 9 true 11 (zg 1 10),zj 9 true 12 (zk 77 [zI 11]),zw 9 true 13 (zo 12),zw 13 false 14 (zd 1 1),zw 13 false 15 (zg 1 14),zw 13 false 16 (zq (.t 15) (.c (.str [45,62]))),zw 13 false 17 (zo 16),zw 17 true 18 (zd 1 2),zw 17 true 19 (zg 1 18),zw 17 true 20 (zq (.t 19) (zc 2)),zw 13 false 21 (.pick (.t 17) (.t 20) (.c (.bool false))),zw 9 true 22 (.pick (.t 13) (.c (.bool true)) (.t 21)),zv 23 (.pick (.t 9) (.t 22) (.c (.bool false))),zm 24 23,zw 24 true 25 (zd 1 2),zw 24 true 26 (zg 1 25),zw 24 true 27 (.bin .geq .no (.t 26) (zc 0)),zv 28 (.pick (.t 24) (.t 27) (.c (.bool false))),zm 29 28,zw 29 true 30 (zd 1 2),zw 29 true 31 (zg 1 30),zw 29 true 32 (.bin .leq .no (.t 31) (zc 100)),zv 33 (.pick (.t 29) (.t 32) (.c (.bool false))),zm 3 33]
def qbub:IC:=zr [zv 34 (zd 1 3),zv 35 (zg 1 34),zv 36 (.len false (.t 35)),zv 37 (.mov (zc 0))]
def qb1g:IC:=zr [zv 38 (.bin .lss .no (.t 37) (.t 36))]
def qbuf:IC:=zr [zv 39 (.iad 4 (.t 35) (.t 37)),zv 40 (zl 4 39),zi 5 (.alo [(.str []),(.str []),(.int .i64 0),.nils]),zn (.st 4 (.agg [.id,.id,.id,(.sl 3)]) (.t 5) (.t 40))]
def qb26:IC:=zr [zm 41 3,zm 42 41,zw 42 true 43 (zl 4 5),zw 42 true 44 (zd 1 2),zw 42 true 45 (zg 1 44),zj 42 true 46 (zk 83 [((.t 43),(.agg [.id,.id,.id,(.sl 3)])),zI 45]),zv 47 (.pick (.t 42) (.t 46) (.c (.bool false))),zm 3 47]
def qbzt:IC:=zr [zv 48 (.bin .add .no (.t 37) (zc 1)),zm 37 48]
def qby0:IC:=(.seq qb1g (.seq (.cond (.t 38) .skip (.exit 0)) (.seq (.block 1 (.seq qbuf qb26)) qbzt)))
def qb2r:IC:=zr [zm 49 3,zv 50 (.un .not (.t 49))]
def qbjc:IC:=zr [zv 2 (.mov (zc 10))]
def qbf4:IC:=zr [zv 2 (.mov (zc 0))]
def k0p:IC:=(.seq qbvq (.seq qbv8 (.seq (.seq qbub (.block 0 (.loop qby0))) (.seq (.seq qb2r (.cond (.t 50) (.seq qbjc .ret) .skip)) (.seq qbf4 .ret)))))
@[go_sem] def s0p:List (RV×Co):=[(.t 2,.id)]
theorem c0p:cFun Tryz.prog 51 = some (51,k0p,s0p):=by kernel_rfl

def qbpi:IC:=zr [zi 3 (.box (.t 0)),zi 5 (.box (.t 2)),zi 6 (.alo [(.int .i64 0),(.int .i64 0),.nils,.nils]),zv 7 (.mov (zc 0))]
def qbiz:IC:=zr [zv 22 (zl 3 3),zm 23 1,zv 24 (zl 4 5),zi 25 (zk 23 [((.t 22),(.agg [(.sl 3),(.sl 3),(.sl 4)])),((.t 23),(.sl 4)),((.t 24),(.agg [.id,.id,.id,(.sl 3)]))]),zm 21 25,zv 26 (zx 21 0),zv 27 (zx 21 1),zi 8 (.alo [(.int .i64 0),(.int .i64 0),.nils,.nils]),zn (.st 4 (.agg [.id,.id,(.sl 3),(.sl 4)]) (.t 8) (.t 26)),zm 9 27]
def qbj3:IC:=zr [zm 28 9]
def qbrz:IC:=.drw [zp (zv 29 (zl 4 8)),zp (zv 30 (zl 4 8)),(zi 31 (zk 84 [((.t 30),(.agg [.id,.id,(.sl 3),(.sl 4)]))]),[0]),(zn (.st 4 (.agg [.id,.id,(.sl 3),(.sl 4)]) (.t 6) (.t 29)),[]),zp (zm 7 31)]
def qza:IC:=zr [zv 33 (zd 3 2),zv 34 (zg 1 33),zv 35 (zl 4 5),zi 36 (zk 85 [((.t 34),(.sl 4)),((.t 35),(.agg [.id,.id,.id,(.sl 3)]))]),zm 32 36,zv 37 (zx 32 0),zv 38 (zx 32 1),zv 39 (zx 32 2),zm 10 37,zm 11 38,zm 12 39]
def qbpt:IC:=zr [zm 40 12,zv 41 (.un .not (.t 40))]
def qsz:IC:=.pan [zv 42 (.bld [(.int .i64 0)] [(0,1,(zc 16))]),zv 43 (.mki 100 (.t 42) .id)] (.t 43)
def qo3:IC:=.drw [(zi 45 (zk 86 [((.c .nils),(.sl 4))]),[]),zp (zv 46 (zd 5 1)),(zv 47 (zl 3 46),[0]),(zi 48 (zk 87 [zI 45,((.t 47),(.agg [.id,.id,(.sl 3)]))]),[]),zp (zm 44 48),zp (zv 49 (zx 44 0)),zp (zv 50 (zx 44 1)),(zi 13 (.alo [(.str []),(.int .i64 0),.nils]),[0,2,3]),(zn (.st 3 (.agg [.id,.id,(.sl 3)]) (.t 13) (.t 49)),[]),zp (zm 14 50)]
def qbfa:IC:=zr [zm 51 10,zv 52 (zd 13 2),zv 53 (zg 1 52),zv 54 (.bld [(.int .i64 0),(.int .i64 0),.nils,.nils] [(0,1,(zc 3)),(1,1,(.t 51)),(2,1,(.t 53))]),zi 15 (.alo [(.int .i64 0),(.int .i64 0),.nils,.nils]),zn (.st 4 (.agg [.id,.id,(.sl 3),(.sl 4)]) (.t 15) (.t 54))]
def qbsm:IC:=zr [zv 16 (.mov (zc 1))]
def q48:IC:=zr [zm 55 11,zv 56 (.len false (.t 55)),zv 57 (.mov (zc 0))]
def q8r:IC:=zr [zv 58 (.bin .lss .no (.t 57) (.t 56))]
def q9f:IC:=zr [zv 59 (.iad 4 (.t 55) (.t 57)),zv 60 (zl 4 59),zi 18 (.alo [(.str []),(.str []),(.int .i64 0),.nils]),zn (.st 4 (.agg [.id,.id,.id,(.sl 3)]) (.t 18) (.t 60))]
def qbaz:IC:=zr [zv 62 (zl 3 3),zm 63 1,zv 64 (zl 4 18),zi 65 (zk 53 [((.t 62),(.agg [(.sl 3),(.sl 3),(.sl 4)])),((.t 63),(.sl 4)),((.t 64),(.agg [.id,.id,.id,(.sl 3)]))]),zm 61 65,zv 66 (zx 61 0),zv 67 (zx 61 1),zi 19 (.alo [(.int .i64 0),(.int .i64 0),.nils,.nils]),zn (.st 4 (.agg [.id,.id,(.sl 3),(.sl 4)]) (.t 19) (.t 66)),zm 20 67]
def qbao:IC:=zr [zv 68 (zd 15 3),zv 69 (zg 1 68),zv 70 (zl 4 19),zv 71 (.bsl 4 [((.t 70),(.agg [.id,.id,(.sl 3),(.sl 4)]))]),zi 72 (.app 4 (.agg [(.int .i64 0),(.int .i64 0),.nils,.nils]) 64 (.sl 4) (.t 69) (.t 71)),zv 73 (zd 15 3),zn (.st 1 (.sl 4) (.t 73) (.t 72))]
def q8l:IC:=zr [zm 74 16,zm 75 20,zv 76 (.bin .add .no (.t 74) (.t 75)),zm 16 76]
def q62:IC:=zr [zm 77 16,zv 78 (.bin .gtr .no (.t 77) (zc 4096))]
def qjw:IC:=.pan [zv 79 (.bld [(.int .i64 0)] [(0,1,(zc 2))]),zv 80 (.mki 100 (.t 79) .id)] (.t 80)
def q9v:IC:=zr [zv 81 (.bin .add .no (.t 57) (zc 1)),zm 57 81]
def q9h:IC:=(.seq q8r (.seq (.cond (.t 58) .skip (.exit 0)) (.seq (.block 1 (.seq q9f (.seq qbaz (.seq qbao (.seq q8l (.seq q62 (.cond (.t 78) qjw .skip))))))) q9v)))
def q8n:IC:=zr [zv 82 (zl 4 15),zm 83 16,zn (.st 4 (.agg [.id,.id,(.sl 3),(.sl 4)]) (.t 6) (.t 82)),zm 7 83]
def k0dl:IC:=(.seq qbpi (.seq (.seq qbiz (.seq qbj3 (.cond (.t 28) (.seq qbrz .ret) .skip))) (.seq qza (.seq (.seq qbpt (.cond (.t 41) qsz .skip)) (.seq qo3 (.seq qbfa (.seq qbsm (.seq (.seq q48 (.block 0 (.loop q9h))) (.seq q8n .ret)))))))))
@[go_sem] def s0dl:List (RV×Co):=[(.c true 4 6,(.agg [.id,.id,(.sl 3),(.sl 4)])),(.t 7,.id)]
theorem c0dl:cFun Tryz.prog 53 = some (84,k0dl,s0dl):=by kernel_rfl

def qbl9:IC:=zr [zv 2 zf]
def qbtf:IC:=zr [zm 5 0,zv 6 (zq (.t 5) (.c (.str []))),zm 7 6,zw 7 false 8 (zo 0),zw 7 false 9 (.idx (.t 8) (zc 0)),zw 7 false 10 (.bin .neq .no (.t 9) (.c (.int .u8 33))),zv 11 (.pick (.t 7) (.c (.bool true)) (.t 10))]
def qbr5:IC:=zr [zv 2 zf]
def qbrc:IC:=zr [zm 13 0,zv 14 (.sls (.t 13) (some (zc 1)) none),zi 15 (zk 88 [zI 14]),zm 12 15,zv 16 (zx 12 0),zv 17 (zx 12 1),zm 3 16,zm 4 17]
def qbk7:IC:=.drw [zp (zm 18 4),zp (zv 19 (zq (.t 18) (zc 0))),zp (zm 20 19),zp (zw 20 true 21 (zo 3)),(zj 20 true 22 (zk 89 [zI 21]),[]),zp (zw 20 true 23 (zo 0)),zp (zw 20 true 24 (.sls (.t 23) (some (zc 1)) none)),zp (zw 20 true 25 (zq (.t 22) (.t 24))),zp (zv 26 (.pick (.t 20) (.t 25) (.c (.bool false)))),zp (zm 2 26)]
def k0bz:IC:=(.seq qbl9 (.seq (.seq qbtf (.cond (.t 11) (.seq qbr5 .ret) .skip)) (.seq qbrc (.seq qbk7 .ret))))
@[go_sem] def s0bz:List (RV×Co):=[(.t 2,.id)]
theorem c0bz:cFun Tryz.prog 54 = some (27,k0bz,s0bz):=by kernel_rfl

def qbro:IC:=zr [zv 2 zf]
def qbe5:IC:=zr [zm 3 0,zv 4 (.bin .geq .no (.t 3) (.c (.int .u8 65))),zm 5 4,zw 5 true 6 (zo 0),zw 5 true 7 (.bin .leq .no (.t 6) (.c (.int .u8 90))),zv 8 (.pick (.t 5) (.t 7) (.c (.bool false))),zm 2 8]
def k0cj:IC:=(.seq qbro (.seq qbe5 .ret))
@[go_sem] def s0cj:List (RV×Co):=[(.t 2,.id)]
theorem c0cj:cFun Tryz.prog 55 = some (9,k0cj,s0cj):=by kernel_rfl

def qbgh:IC:=zr [zv 2 zf]
def qbt3:IC:=zr [zv 3 (.mov (zc 1))]
def qbra:IC:=zr [zm 4 3,zm 5 0,zv 6 (.len true (.t 5)),zv 7 (.bin .lss .no (.t 4) (.t 6))]
def qbgm:IC:=zr [zm 10 0,zm 11 3,zv 12 (.idx (.t 10) (.t 11)),zi 13 (zk 90 [zI 12]),zv 14 (.un .not (.t 13))]
def qbnz:IC:=zr [zv 2 zf]
def qbqv:IC:=zr [zm 8 3,zv 9 (.bin .add .no (.t 8) (zc 1)),zm 3 9]
def qbdj:IC:=(.seq (.seq qbra (.cond (.t 7) .skip (.exit 0))) (.seq (.block 1 (.seq qbgm (.cond (.t 14) (.seq qbnz .ret) .skip))) qbqv))
def qbhp:IC:=zr [zv 2 (.mov (.c (.bool true)))]
def k0cn:IC:=(.seq qbgh (.seq (.seq qbt3 (.block 0 (.loop qbdj))) (.seq qbhp .ret)))
@[go_sem] def s0cn:List (RV×Co):=[(.t 2,.id)]
theorem c0cn:cFun Tryz.prog 56 = some (15,k0cn,s0cn):=by kernel_rfl

def qbgp:IC:=zr [zi 2 (.box (.t 0)),zi 3 (.box (.t 1)),zv 4 zf]
def qbfo:IC:=zr [zv 6 (zd 2 0),zv 7 (zg 1 6),zv 8 (zd 3 0),zv 9 (zg 1 8),zv 10 (.bin .neq .no (.t 7) (.t 9)),zm 11 10,zw 11 false 12 (zd 2 1),zw 11 false 13 (zg 1 12),zw 11 false 14 (zd 3 1),zw 11 false 15 (zg 1 14),zw 11 false 16 (.bin .neq .no (.t 13) (.t 15)),zv 17 (.pick (.t 11) (.c (.bool true)) (.t 16)),zm 18 17,zw 18 false 19 (zd 2 2),zw 18 false 20 (zg 1 19),zw 18 false 21 (.len false (.t 20)),zw 18 false 22 (zd 3 2),zw 18 false 23 (zg 1 22),zw 18 false 24 (.len false (.t 23)),zw 18 false 25 (.bin .neq .no (.t 21) (.t 24)),zv 26 (.pick (.t 18) (.c (.bool true)) (.t 25))]
def qbiu:IC:=zr [zv 4 zf]
def qbju:IC:=zr [zv 5 (.mov (zc 0))]
def qbsi:IC:=zr [zm 27 5,zv 28 (zd 2 2),zv 29 (zg 1 28),zv 30 (.len false (.t 29)),zv 31 (.bin .lss .no (.t 27) (.t 30))]
def qbdl:IC:=.drw [zp (zv 34 (zd 2 2)),zp (zv 35 (zg 1 34)),zp (zm 36 5),zp (zv 37 (.iad 3 (.t 35) (.t 36))),zp (zv 38 (zl 3 37)),zp (zv 39 (zd 3 2)),zp (zv 40 (zg 1 39)),zp (zm 41 5),zp (zv 42 (.iad 3 (.t 40) (.t 41))),zp (zv 43 (zl 3 42)),(zi 44 (zk 61 [((.t 38),(.agg [.id,.id,(.sl 3)])),((.t 43),(.agg [.id,.id,(.sl 3)]))]),[]),zp (zv 45 (.un .not (.t 44)))]
def qbgs:IC:=zr [zv 4 zf]
def qbte:IC:=zr [zm 32 5,zv 33 (.bin .add .no (.t 32) (zc 1)),zm 5 33]
def qbk9:IC:=(.seq (.seq qbsi (.cond (.t 31) .skip (.exit 0))) (.seq (.block 1 (.seq qbdl (.cond (.t 45) (.seq qbgs .ret) .skip))) qbte))
def q97:IC:=zr [zv 4 (.mov (.c (.bool true)))]
def k0bx:IC:=(.seq qbgp (.seq (.seq qbfo (.cond (.t 26) (.seq qbiu .ret) .skip)) (.seq (.seq qbju (.block 0 (.loop qbk9))) (.seq q97 .ret))))
@[go_sem] def s0bx:List (RV×Co):=[(.t 4,.id)]
theorem c0bx:cFun Tryz.prog 61 = some (46,k0bx,s0bx):=by kernel_rfl

def qbff:IC:=zr [zi 3 (.box (.t 0)),zv 6 (.mov (zc 0))]
def qbgl:IC:=zr [zm 8 1,zv 9 (.bin .sub .no (.t 8) (zc 1)),zm 1 9]
def qbpr:IC:=zr [zm 10 2,zv 11 (.bin .lss .no (.t 10) (zc 1))]
def qblu:IC:=zr [zv 6 (.mov (zc (-1)))]
def qbq1:IC:=zr [zv 7 (.mov (zc 0))]
def qbfr:IC:=zr [zm 12 7,zv 13 (zd 3 2),zv 14 (zg 1 13),zv 15 (.len false (.t 14)),zv 16 (.bin .lss .no (.t 12) (.t 15)),zm 17 16,zw 17 true 18 (zo 1),zw 17 true 19 (.bin .geq .no (.t 18) (zc 0)),zv 20 (.pick (.t 17) (.t 19) (.c (.bool false)))]
def qbrp:IC:=zr [zv 23 (zd 3 2),zv 24 (zg 1 23),zm 25 7,zv 26 (.iad 3 (.t 24) (.t 25)),zv 27 (zl 3 26),zm 28 1,zm 29 2,zv 30 (.bin .sub .no (.t 29) (zc 1)),zi 31 (zk 62 [((.t 27),(.agg [.id,.id,(.sl 3)])),zI 28,zI 30]),zm 1 31]
def qboi:IC:=zr [zm 21 7,zv 22 (.bin .add .no (.t 21) (zc 1)),zm 7 22]
def qbjh:IC:=(.seq (.seq qbfr (.cond (.t 20) .skip (.exit 0))) (.seq (.block 1 qbrp) qboi))
def qbaw:IC:=zr [zm 32 1,zm 6 32]
def k0bq:IC:=(.seq qbff (.seq qbgl (.seq (.seq qbpr (.cond (.t 11) (.seq qblu .ret) .skip)) (.seq (.seq qbq1 (.block 0 (.loop qbjh))) (.seq qbaw .ret)))))
@[go_sem] def s0bq:List (RV×Co):=[(.t 6,.id)]
theorem c0bq:cFun Tryz.prog 62 = some (33,k0bq,s0bq):=by kernel_rfl

def qbfe:IC:=zr [zv 1 (zg 1 0),zv 2 (.nck (.t 1)),zv 3 (zd 2 1),zv 4 (zg 1 3),zv 5 (.bin .sub .no (.t 4) (zc 1)),zv 6 (.nck (.t 1)),zv 7 (zd 6 1),zn (.st 1 .id (.t 7) (.t 5))]
def k0dt:IC:=qbfe
@[go_sem] def s0dt:List (RV×Co):=[]
theorem c0dt:cFun Tryz.prog 63 = some (8,k0dt,s0dt):=by kernel_rfl

def qbtp:IC:=zr [zi 2 (.alo [(.str []),(.int .i64 0),.nils])]
def qbk8:IC:=zr [zm 6 0,zi 7 (zk 66 [zI 6,((.c (.str [40])),.id)])]
def qbhm:IC:=zr [zm 8 0,zi 9 (zk 40 [zI 8]),zi 3 (.alo [(.str []),(.int .i64 0),.nils]),zn (.st 3 (.agg [.id,.id,(.sl 3)]) (.t 3) (.t 9))]
def qbcz:IC:=zr [zm 10 0,zm 11 0,zv 12 (.nck (.t 11)),zv 13 (zd 12 2),zv 14 (zg 1 13),zm 15 14,zw 15 false 16 (zo 0),zj 15 false 17 (zk 66 [zI 16,((.c (.str [41])),.id)]),zw 15 false 18 (.un .not (.t 17)),zv 19 (.pick (.t 15) (.c (.bool true)) (.t 18)),zv 20 (.nck (.t 10)),zv 21 (zd 20 2),zn (.st 1 .id (.t 21) (.t 19))]
def qbch:IC:=zr [zv 22 (zl 3 3),zn (.st 3 (.agg [.id,.id,(.sl 3)]) (.t 2) (.t 22))]
def qbi1:IC:=zr [zm 23 0,zv 24 (.nck (.t 23)),zv 25 (zd 24 0),zv 26 (zg 1 25),zi 27 (zk 94 [zI 26,((.c (.str [32,40,41])),.id)]),zm 4 27]
def qbhj:IC:=zr [zm 28 4,zv 29 (.bin .lss .no (.t 28) (zc 0))]
def qbp8:IC:=zr [zm 30 0,zv 31 (.nck (.t 30)),zv 32 (zd 31 0),zv 33 (zg 1 32),zv 34 (.len true (.t 33)),zm 4 34]
def qbei:IC:=zr [zm 35 0,zv 36 (.nck (.t 35)),zv 37 (zd 36 0),zv 38 (zg 1 37),zm 39 4,zv 40 (.sls (.t 38) none (some (.t 39))),zi 41 (zk 95 [zI 40]),zi 5 (.alo [(.str []),(.int .i64 0),.nils]),zn (.st 3 (.agg [.id,.id,(.sl 3)]) (.t 5) (.t 41))]
def qbpd:IC:=.drw [zp (zm 42 0),zp (zm 43 0),zp (zm 44 0),zp (zv 45 (.nck (.t 44))),zp (zv 46 (zd 45 0)),zp (zv 47 (zg 1 46)),zp (zm 48 4),zp (zv 49 (.sls (.t 47) (some (.t 48)) none)),zp (zm 50 0),zp (zv 51 (.nck (.t 50))),zp (zv 52 (zd 51 2)),zp (zv 53 (zg 1 52)),zp (zm 54 53),zp (zw 54 false 55 (zo 4)),zp (zw 54 false 56 (zq (.t 55) (zc 0))),zp (zv 57 (.pick (.t 54) (.c (.bool true)) (.t 56))),zp (zv 58 (.nck (.t 42))),zp (zv 59 (zd 58 0)),(zn (.st 1 .id (.t 59) (.t 49)),[]),zp (zv 60 (.nck (.t 43))),zp (zv 61 (zd 60 2)),(zn (.st 1 .id (.t 61) (.t 57)),[])]
def q5z:IC:=zr [zv 62 (zl 3 5),zn (.st 3 (.agg [.id,.id,(.sl 3)]) (.t 2) (.t 62))]
def k0du:IC:=(.seq qbtp (.seq (.seq qbk8 (.cond (.t 7) (.seq qbhm (.seq qbcz (.seq qbch .ret))) .skip)) (.seq qbi1 (.seq (.seq qbhj (.cond (.t 29) qbp8 .skip)) (.seq qbei (.seq qbpd (.seq q5z .ret)))))))
@[go_sem] def s0du:List (RV×Co):=[(.c true 3 2,(.agg [.id,.id,(.sl 3)]))]
theorem c0du:cFun Tryz.prog 64 = some (63,k0du,s0du):=by kernel_rfl

def qbqz:IC:=zr [zv 4 zf]
def qbn6:IC:=zr [zm 5 0,zm 6 1,zi 7 (zk 96 [zI 5,zI 6]),zm 4 7]
def k0cd:IC:=(.seq qbqz (.seq qbn6 .ret))
@[go_sem] def s0cd:List (RV×Co):=[(.t 4,.id)]
theorem c0cd:cFun Tryz.prog 65 = some (8,k0cd,s0cd):=by kernel_rfl

def qbfl:IC:=zr [zv 4 zf]
def qbs4:IC:=zr [zm 6 0,zv 7 (.nck (.t 6)),zv 8 (zd 7 0),zv 9 (zg 1 8),zm 10 1,zi 11 (zk 65 [zI 9,zI 10]),zm 5 11]
def qbs7:IC:=zr [zm 12 5]
def qbnr:IC:=zr [zm 13 0,zm 14 0,zv 15 (.nck (.t 14)),zv 16 (zd 15 0),zv 17 (zg 1 16),zm 18 1,zv 19 (.len true (.t 18)),zv 20 (.sls (.t 17) (some (.t 19)) none),zv 21 (.nck (.t 13)),zv 22 (zd 21 0),zn (.st 1 .id (.t 22) (.t 20))]
def qbhi:IC:=zr [zm 23 5,zm 4 23]
def k0dx:IC:=(.seq qbfl (.seq qbs4 (.seq (.seq qbs7 (.cond (.t 12) qbnr .skip)) (.seq qbhi .ret))))
@[go_sem] def s0dx:List (RV×Co):=[(.t 4,.id)]
theorem c0dx:cFun Tryz.prog 66 = some (24,k0dx,s0dx):=by kernel_rfl

def qbma:IC:=zr [zv 2 (.mov (.c .nils))]
def qbnh:IC:=zr [zm 3 0,zv 4 (.bin .eql .slice (.t 3) (.c .nils))]
def qbrh:IC:=zr [zv 2 (.mov (.c .nils))]
def qbjk:IC:=zr [zv 5 (.bsl 3 []),zm 6 0,zi 7 (.app 3 (.agg [(.str []),(.int .i64 0),.nils]) 48 (.sl 3) (.t 5) (.t 6)),zm 2 7]
def k0dw:IC:=(.seq qbma (.seq (.seq qbnh (.cond (.t 4) (.seq qbrh .ret) .skip)) (.seq qbjk .ret)))
@[go_sem] def s0dw:List (RV×Co):=[(.t 2,(.sl 3))]
theorem c0dw:cFun Tryz.prog 67 = some (8,k0dw,s0dw):=by kernel_rfl

def qbcy:IC:=zr [zi 1 (.box (.t 0)),zv 2 zf]
def qbep:IC:=zr [zi 3 (.alo [(.int .i64 0)]),zn (.st 1 .id (.t 3) (zc 0))]
def qbnk:IC:=zr [zv 4 (zl 3 1),zv 5 (.mfn 98 [] [(.t 3)]),zi 6 (zk 97 [((.t 4),(.agg [.id,.id,(.sl 3)])),((zc 1),.id),zI 5]),zm 2 6]
def k0bk:IC:=(.seq qbcy (.seq qbep (.seq qbnk .ret)))
@[go_sem] def s0bk:List (RV×Co):=[(.t 2,.id)]
theorem c0bk:cFun Tryz.prog 68 = some (7,k0bk,s0bk):=by kernel_rfl

def qbhq:IC:=zr [zi 1 (.box (.t 0)),zv 2 (.mov (.c (.str [])))]
def qbpg:IC:=zr [zv 6 (zd 1 0),zv 7 (zg 1 6),zv 8 (zq (.t 7) (.c (.str [45,62])))]
def qbez:IC:=.drw [zp (zv 9 (zd 1 2)),zp (zv 10 (zg 1 9)),zp (zv 11 (.iad 3 (.t 10) (zc 0))),zp (zv 12 (zl 3 11)),zp (zv 13 (zd 1 2)),zp (zv 14 (zg 1 13)),zp (zv 15 (.iad 3 (.t 14) (zc 0))),zp (zv 16 (zd 15 0)),zp (zv 17 (zg 1 16)),(zv 18 (zq (.t 17) (.c (.str [45,62]))),[]),(zi 19 (zk 100 [((.t 12),(.agg [.id,.id,(.sl 3)])),zI 18]),[]),(zv 20 (.bin .add .no (.t 19) (.c (.str [32,45,62,32]))),[]),zp (zv 21 (zd 1 2)),(zv 22 (zg 1 21),[10]),zp (zv 23 (.iad 3 (.t 22) (zc 1))),(zv 24 (zl 3 23),[10]),(zi 25 (zk 69 [((.t 24),(.agg [.id,.id,(.sl 3)]))]),[]),zp (zv 26 (.bin .add .no (.t 20) (.t 25))),zp (zm 2 26)]
def qbi5:IC:=zr [zi 3 (.bld 129 5)]
def qbfc:IC:=zr [zv 27 (zl 3 1),zi 28 (zk 70 [((.t 27),(.agg [.id,.id,(.sl 3)]))]),zi 29 (zk 101 [zI 28]),zi 30 (zk 75 [((.t 3),(.agg [.id,(.sl 1)])),zI 29])]
def qbko:IC:=zr [zv 31 (zd 1 2),zv 32 (zg 1 31),zv 33 (.len false (.t 32)),zv 34 (.mov (zc 0))]
def qbkw:IC:=zr [zv 35 (.bin .lss .no (.t 34) (.t 33))]
def qbq4:IC:=zr [zv 36 (.iad 3 (.t 32) (.t 34)),zv 37 (zl 3 36),zi 5 (.alo [(.str []),(.int .i64 0),.nils]),zn (.st 3 (.agg [.id,.id,(.sl 3)]) (.t 5) (.t 37))]
def qbnq:IC:=zr [zv 38 (zl 3 5),zv 39 (zd 5 2),zv 40 (zg 1 39),zv 41 (.len false (.t 40)),zv 42 (.bin .gtr .no (.t 41) (zc 0)),zi 43 (zk 100 [((.t 38),(.agg [.id,.id,(.sl 3)])),zI 42]),zv 44 (.bin .add .no (.c (.str [32])) (.t 43)),zi 45 (zk 75 [((.t 3),(.agg [.id,(.sl 1)])),zI 44])]
def qbae:IC:=zr [zv 46 (.bin .add .no (.t 34) (zc 1)),zm 34 46]
def qbo2:IC:=(.seq qbkw (.seq (.cond (.t 35) .skip (.exit 0)) (.seq (.block 1 (.seq qbq4 qbnq)) qbae)))
def qbag:IC:=zr [zi 47 (zk 76 [((.t 3),(.agg [.id,(.sl 1)]))]),zm 2 47]
def k0bf:IC:=(.seq qbhq (.seq (.seq qbpg (.cond (.t 8) (.seq qbez .ret) .skip)) (.seq qbi5 (.seq qbfc (.seq (.seq qbko (.block 0 (.loop qbo2))) (.seq qbag .ret))))))
@[go_sem] def s0bf:List (RV×Co):=[(.t 2,.id)]
theorem c0bf:cFun Tryz.prog 69 = some (48,k0bf,s0bf):=by kernel_rfl

def qbga:IC:=zr [zi 1 (.box (.t 0)),zi 2 (.alo [(.str []),(.int .i64 0),(.int .i64 0)])]
def qbqx:IC:=zr [zv 3 (zd 1 0),zv 4 (zg 1 3),zv 5 (zd 1 1),zv 6 (zg 1 5),zv 7 (zd 1 2),zv 8 (zg 1 7),zv 9 (.len false (.t 8)),zv 10 (.bld [(.str []),(.int .i64 0),(.int .i64 0)] [(0,1,(.t 4)),(1,1,(.t 6)),(2,1,(.t 9))]),zn (.st 3 .id (.t 2) (.t 10))]
def k0bv:IC:=(.seq qbga (.seq qbqx .ret))
@[go_sem] def s0bv:List (RV×Co):=[(.c true 3 2,.id)]
theorem c0bv:cFun Tryz.prog 70 = some (11,k0bv,s0bv):=by kernel_rfl

def qbzu:IC:=zr [zv 4 (.mov (zc 0))]
def qby8:IC:=zr [zm 6 0,zv 7 (.len false (.t 6)),zv 8 (.mov (zc 0))]
def qbux:IC:=zr [zv 9 (.bin .lss .no (.t 8) (.t 7))]
def qbvk:IC:=zr [zm 10 8,zm 5 10]
def qb0f:IC:=zr [zm 11 0,zm 12 5,zv 13 (.iad 3 (.t 11) (.t 12)),zv 14 (zd 13 0),zv 15 (zg 1 14),zm 16 1,zv 17 (zq (.t 15) (.t 16))]
def qb0w:IC:=zr [zm 18 5,zm 4 18]
def qbzg:IC:=zr [zv 19 (.bin .add .no (.t 8) (zc 1)),zm 8 19]
def qbu0:IC:=(.seq qbux (.seq (.cond (.t 9) .skip (.exit 0)) (.seq (.block 1 (.seq qbvk (.seq qb0f (.cond (.t 17) (.seq qb0w .ret) .skip)))) qbzg)))
def qbyd:IC:=zr [zv 4 (.mov (zc (-1)))]
def k0n:IC:=(.seq qbzu (.seq (.seq qby8 (.block 0 (.loop qbu0))) (.seq qbyd .ret)))
@[go_sem] def s0n:List (RV×Co):=[(.t 4,.id)]
theorem c0n:cFun Tryz.prog 71 = some (20,k0n,s0n):=by kernel_rfl

def qb18:IC:=zr [zv 2 zf]
def qb2j:IC:=zr [zm 6 0,zi 7 (zk 48 [((.t 6),(.sl 3))]),zm 5 7,zv 8 (zx 5 0),zv 9 (zx 5 1),zm 3 8,zm 4 9]
def qbvc:IC:=zr [zm 10 4,zv 11 (zq (.t 10) (zc 0)),zm 2 11]
def k0f:IC:=(.seq qb18 (.seq qb2j (.seq qbvc .ret)))
@[go_sem] def s0f:List (RV×Co):=[(.t 2,.id)]
theorem c0f:cFun Tryz.prog 72 = some (12,k0f,s0f):=by kernel_rfl

def qbzm:IC:=zr [zv 2 (.mov (.c .nils))]
def qbvw:IC:=zr [zm 3 0,zv 4 (.bin .eql .slice (.t 3) (.c .nils))]
def qb23:IC:=zr [zv 2 (.mov (.c .nils))]
def qb0y:IC:=zr [zv 5 (.bsl 1 []),zm 6 0,zi 7 (.app 1 (.int .i64 0) 8 (.sl 1) (.t 5) (.t 6)),zm 2 7]
def k0d:IC:=(.seq qbzm (.seq (.seq qbvw (.cond (.t 4) (.seq qb23 .ret) .skip)) (.seq qb0y .ret)))
@[go_sem] def s0d:List (RV×Co):=[(.t 2,(.sl 1))]
theorem c0d:cFun Tryz.prog 73 = some (8,k0d,s0d):=by kernel_rfl

def qbpo:IC:=zr [zv 2 zf]
def qbja:IC:=zr [zm 3 0,zv 4 (.bin .neq .no (.t 3) (.c (.str []))),zm 5 4,zw 5 true 6 (zo 0),zw 5 true 7 (.idx (.t 6) (zc 0)),zj 5 true 8 (zk 104 [zI 7]),zv 9 (.pick (.t 5) (.t 8) (.c (.bool false))),zm 10 9,zw 10 true 11 (zo 0),zj 10 true 12 (zk 105 [zI 11]),zv 13 (.pick (.t 10) (.t 12) (.c (.bool false))),zm 2 13]
def k0co:IC:=(.seq qbpo (.seq qbja .ret))
@[go_sem] def s0co:List (RV×Co):=[(.t 2,.id)]
theorem c0co:cFun Tryz.prog 77 = some (14,k0co,s0co):=by kernel_rfl

def qbxp:IC:=zr [zi 3 (.box (.t 1)),zv 4 zf]
def qbyu:IC:=zr [zv 7 (zd 3 1),zv 8 (zg 1 7),zv 9 (.len false (.t 8)),zv 10 (.mov (zc 0))]
def qbza:IC:=zr [zv 11 (.bin .lss .no (.t 10) (.t 9))]
def qbx5:IC:=zr [zm 12 10,zv 13 (.iad 1 (.t 8) (.t 10)),zv 14 (zg 1 13),zm 5 12,zm 6 14]
def qb1b:IC:=zr [zm 15 0,zm 16 6,zi 17 (zk 71 [((.t 15),(.sl 3)),zI 16]),zv 18 (.bin .lss .no (.t 17) (zc 0)),zm 19 18,zw 19 false 20 (zd 3 1),zw 19 false 21 (zg 1 20),zw 19 false 22 (zo 5),zw 19 false 23 (.slv 1 (.t 21) none (some (.t 22)) none),zw 19 false 24 (zo 6),zj 19 false 25 (zk 106 [((.t 23),(.sl 1)),zI 24]),zv 26 (.pick (.t 19) (.c (.bool true)) (.t 25))]
def qbzf:IC:=zr [zv 4 zf]
def qbvj:IC:=zr [zv 27 (.bin .add .no (.t 10) (zc 1)),zm 10 27]
def qbyz:IC:=(.seq qbza (.seq (.cond (.t 11) .skip (.exit 0)) (.seq (.block 1 (.seq qbx5 (.seq qb1b (.cond (.t 26) (.seq qbzf .ret) .skip)))) qbvj)))
def qbx7:IC:=zr [zv 4 (.mov (.c (.bool true)))]
def k0o:IC:=(.seq qbxp (.seq (.seq qbyu (.block 0 (.loop qbyz))) (.seq qbx7 .ret)))
@[go_sem] def s0o:List (RV×Co):=[(.t 4,.id)]
theorem c0o:cFun Tryz.prog 78 = some (28,k0o,s0o):=by kernel_rfl

def qbzh:IC:=zr [zv 2 (.mov (.c .nils))]
def qb2q:IC:=zr [zv 3 (.mov (.c .nils))]
def qb0x:IC:=zr [zm 7 0,zv 8 (.len false (.t 7)),zv 9 (.mov (zc 0))]
def qbxn:IC:=zr [zv 10 (.bin .lss .no (.t 9) (.t 8))]
def qbxa:IC:=zr [zm 11 9,zm 4 11]
def qb20:IC:=zr [zm 12 0,zm 13 4,zv 14 (.iad 3 (.t 12) (.t 13)),zv 15 (zd 14 1),zv 16 (zg 1 15),zv 17 (.len false (.t 16)),zv 18 (.mov (zc 0))]
def qbwg:IC:=zr [zv 19 (.bin .lss .no (.t 18) (.t 17))]
def qbzz:IC:=zr [zv 20 (.iad 1 (.t 16) (.t 18)),zv 21 (zg 1 20),zm 6 21]
def qbkk:IC:=zr [zm 22 3,zm 23 4,zm 24 0,zm 25 6,zi 26 (zk 71 [((.t 24),(.sl 3)),zI 25]),zv 27 (.bld [(.int .i64 0),(.int .i64 0)] [(0,1,(.t 23)),(1,1,(.t 26))]),zv 28 (.bsl 2 [zI 27]),zi 29 (.app 2 (.agg [(.int .i64 0),(.int .i64 0)]) 16 (.sl 2) (.t 22) (.t 28)),zm 3 29]
def qbi4:IC:=zr [zv 30 (.bin .add .no (.t 18) (zc 1)),zm 18 30]
def qb1u:IC:=(.seq qbwg (.seq (.cond (.t 19) .skip (.exit 2)) (.seq (.block 3 (.seq qbzz qbkk)) qbi4)))
def qboe:IC:=zr [zv 31 (.bin .add .no (.t 9) (zc 1)),zm 9 31]
def qb21:IC:=(.seq qbxn (.seq (.cond (.t 10) .skip (.exit 0)) (.seq (.block 1 (.seq qbxa (.seq qb20 (.block 2 (.loop qb1u))))) qboe)))
def qbn9:IC:=zr [zm 32 3,zm 2 32]
def k0k:IC:=(.seq qbzh (.seq qb2q (.seq (.seq qb0x (.block 0 (.loop qb21))) (.seq qbn9 .ret))))
@[go_sem] def s0k:List (RV×Co):=[(.t 2,(.sl 2))]
theorem c0k:cFun Tryz.prog 79 = some (33,k0k,s0k):=by kernel_rfl

def qbhh:IC:=zr [zv 4 zf]
def qbnu:IC:=zr [zm 5 0,zm 6 1,zi 7 (zk 107 [((.t 5),(.sl 1)),zI 6]),zv 8 (.bin .geq .no (.t 7) (zc 0)),zm 4 8]
def k0bu:IC:=(.seq qbhh (.seq qbnu .ret))
@[go_sem] def s0bu:List (RV×Co):=[(.t 4,.id)]
theorem c0bu:cFun Tryz.prog 80 = some (9,k0bu,s0bu):=by kernel_rfl

def qb1v:IC:=zr [zv 6 (.mov (.c .nils))]
def qb22:IC:=zr [zm 10 0,zm 11 1,zi 12 (zk 108 [zI 10,((.t 11),(.sl 2))]),zv 13 (.bin .neq .no (.t 12) (zc 0)),zm 14 13,zw 14 false 15 (zo 2),zw 14 false 16 (.bin .lss .no (.t 15) (zc 0)),zv 17 (.pick (.t 14) (.c (.bool true)) (.t 16)),zm 18 17,zw 18 false 19 (zo 2),zw 18 false 20 (zo 0),zw 18 false 21 (.bin .geq .no (.t 19) (.t 20)),zv 22 (.pick (.t 18) (.c (.bool true)) (.t 21))]
def qbz3:IC:=zr [zv 6 (.mov (.c .nils))]
def q15:IC:=zr [zi 7 (.alo [(.bool false),(.bool false),(.bool false),(.bool false),(.bool false),(.bool false),(.bool false),(.bool false),(.bool false),(.bool false),(.bool false),(.bool false),(.bool false),(.bool false),(.bool false),(.bool false),(.bool false),(.bool false),(.bool false),(.bool false),(.bool false),(.bool false),(.bool false),(.bool false),(.bool false),(.bool false),(.bool false),(.bool false),(.bool false),(.bool false),(.bool false),(.bool false),(.bool false),(.bool false),(.bool false),(.bool false),(.bool false),(.bool false),(.bool false),(.bool false),(.bool false),(.bool false),(.bool false),(.bool false),(.bool false),(.bool false),(.bool false),(.bool false),(.bool false),(.bool false),(.bool false),(.bool false),(.bool false),(.bool false),(.bool false),(.bool false),(.bool false),(.bool false),(.bool false),(.bool false),(.bool false),(.bool false),(.bool false),(.bool false),(.bool false),(.bool false),(.bool false),(.bool false),(.bool false),(.bool false),(.bool false),(.bool false),(.bool false),(.bool false),(.bool false),(.bool false),(.bool false),(.bool false),(.bool false),(.bool false),(.bool false),(.bool false),(.bool false),(.bool false),(.bool false),(.bool false),(.bool false),(.bool false),(.bool false),(.bool false),(.bool false),(.bool false),(.bool false),(.bool false),(.bool false),(.bool false),(.bool false),(.bool false),(.bool false),(.bool false),(.bool false),(.bool false),(.bool false),(.bool false),(.bool false),(.bool false),(.bool false),(.bool false),(.bool false),(.bool false),(.bool false),(.bool false),(.bool false),(.bool false),(.bool false),(.bool false),(.bool false),(.bool false),(.bool false),(.bool false),(.bool false),(.bool false),(.bool false),(.bool false),(.bool false),(.bool false),(.bool false),(.bool false),(.bool false),(.bool false),(.bool false),(.bool false),(.bool false),(.bool false),(.bool false),(.bool false),(.bool false),(.bool false),(.bool false),(.bool false),(.bool false),(.bool false),(.bool false),(.bool false),(.bool false),(.bool false),(.bool false),(.bool false),(.bool false),(.bool false),(.bool false),(.bool false),(.bool false),(.bool false),(.bool false),(.bool false),(.bool false),(.bool false),(.bool false),(.bool false),(.bool false),(.bool false),(.bool false),(.bool false),(.bool false),(.bool false),(.bool false),(.bool false),(.bool false),(.bool false),(.bool false),(.bool false),(.bool false),(.bool false),(.bool false),(.bool false),(.bool false),(.bool false),(.bool false),(.bool false),(.bool false),(.bool false),(.bool false),(.bool false),(.bool false),(.bool false),(.bool false),(.bool false),(.bool false),(.bool false),(.bool false),(.bool false),(.bool false),(.bool false),(.bool false),(.bool false),(.bool false),(.bool false),(.bool false),(.bool false),(.bool false),(.bool false),(.bool false),(.bool false),(.bool false),(.bool false),(.bool false),(.bool false),(.bool false),(.bool false),(.bool false),(.bool false),(.bool false),(.bool false),(.bool false),(.bool false),(.bool false),(.bool false),(.bool false),(.bool false),(.bool false),(.bool false),(.bool false),(.bool false),(.bool false),(.bool false),(.bool false),(.bool false),(.bool false),(.bool false),(.bool false),(.bool false),(.bool false),(.bool false),(.bool false),(.bool false),(.bool false),(.bool false),(.bool false),(.bool false),(.bool false),(.bool false),(.bool false),(.bool false),(.bool false),(.bool false),(.bool false),(.bool false),(.bool false),(.bool false),(.bool false),(.bool false),(.bool false),(.bool false),(.bool false),(.bool false),(.bool false),(.bool false),(.bool false),(.bool false),(.bool false),(.bool false),(.bool false),(.bool false),(.bool false),(.bool false),(.bool false),(.bool false),(.bool false),(.bool false),(.bool false),(.bool false),(.bool false),(.bool false),(.bool false),(.bool false),(.bool false),(.bool false),(.bool false),(.bool false),(.bool false),(.bool false),(.bool false),(.bool false),(.bool false),(.bool false),(.bool false),(.bool false),(.bool false),(.bool false),(.bool false),(.bool false),(.bool false),(.bool false),(.bool false),(.bool false),(.bool false),(.bool false),(.bool false),(.bool false),(.bool false),(.bool false),(.bool false),(.bool false),(.bool false),(.bool false),(.bool false),(.bool false),(.bool false),(.bool false),(.bool false),(.bool false),(.bool false),(.bool false),(.bool false),(.bool false),(.bool false),(.bool false),(.bool false),(.bool false),(.bool false),(.bool false),(.bool false),(.bool false),(.bool false),(.bool false),(.bool false),(.bool false),(.bool false),(.bool false),(.bool false),(.bool false),(.bool false),(.bool false),(.bool false),(.bool false),(.bool false),(.bool false),(.bool false),(.bool false),(.bool false),(.bool false),(.bool false),(.bool false),(.bool false),(.bool false),(.bool false),(.bool false),(.bool false),(.bool false),(.bool false),(.bool false),(.bool false),(.bool false),(.bool false),(.bool false),(.bool false),(.bool false),(.bool false),(.bool false),(.bool false),(.bool false),(.bool false),(.bool false),(.bool false),(.bool false),(.bool false),(.bool false),(.bool false),(.bool false),(.bool false),(.bool false),(.bool false),(.bool false),(.bool false),(.bool false),(.bool false),(.bool false),(.bool false),(.bool false),(.bool false),(.bool false),(.bool false),(.bool false),(.bool false),(.bool false),(.bool false),(.bool false),(.bool false),(.bool false),(.bool false),(.bool false),(.bool false),(.bool false),(.bool false),(.bool false),(.bool false),(.bool false),(.bool false),(.bool false),(.bool false),(.bool false),(.bool false),(.bool false),(.bool false),(.bool false),(.bool false),(.bool false),(.bool false),(.bool false),(.bool false),(.bool false),(.bool false),(.bool false),(.bool false),(.bool false),(.bool false),(.bool false),(.bool false),(.bool false),(.bool false),(.bool false),(.bool false),(.bool false),(.bool false),(.bool false),(.bool false),(.bool false),(.bool false),(.bool false),(.bool false),(.bool false),(.bool false),(.bool false),(.bool false),(.bool false),(.bool false),(.bool false),(.bool false),(.bool false),(.bool false),(.bool false),(.bool false),(.bool false),(.bool false),(.bool false),(.bool false),(.bool false),(.bool false),(.bool false),(.bool false),(.bool false),(.bool false),(.bool false),(.bool false),(.bool false),(.bool false),(.bool false),(.bool false),(.bool false),(.bool false),(.bool false),(.bool false),(.bool false),(.bool false),(.bool false),(.bool false),(.bool false),(.bool false),(.bool false),(.bool false),(.bool false),(.bool false),(.bool false),(.bool false),(.bool false),(.bool false),(.bool false),(.bool false),(.bool false),(.bool false),(.bool false),(.bool false),(.bool false),(.bool false),(.bool false),(.bool false),(.bool false),(.bool false),(.bool false),(.bool false),(.bool false),(.bool false),(.bool false),(.bool false),(.bool false),(.bool false),(.bool false),(.bool false),(.bool false),(.bool false),(.bool false),(.bool false),(.bool false),(.bool false),(.bool false),(.bool false),(.bool false),(.bool false),(.bool false),(.bool false),(.bool false),(.bool false),(.bool false),(.bool false),(.bool false),(.bool false),(.bool false),(.bool false),(.bool false),(.bool false),(.bool false),(.bool false),(.bool false),(.bool false),(.bool false),(.bool false),(.bool false),(.bool false),(.bool false),(.bool false),(.bool false),(.bool false),(.bool false),(.bool false),(.bool false),(.bool false),(.bool false),(.bool false),(.bool false),(.bool false),(.bool false),(.bool false),(.bool false),(.bool false),(.bool false),(.bool false),(.bool false),(.bool false),(.bool false),(.bool false),(.bool false),(.bool false),(.bool false),(.bool false),(.bool false),(.bool false),(.bool false),(.bool false),(.bool false),(.bool false),(.bool false),(.bool false),(.bool false),(.bool false),(.bool false),(.bool false),(.bool false),(.bool false),(.bool false),(.bool false),(.bool false),(.bool false),(.bool false),(.bool false),(.bool false),(.bool false),(.bool false),(.bool false),(.bool false),(.bool false),(.bool false),(.bool false),(.bool false),(.bool false),(.bool false),(.bool false),(.bool false),(.bool false),(.bool false),(.bool false),(.bool false),(.bool false),(.bool false),(.bool false),(.bool false),(.bool false),(.bool false),(.bool false),(.bool false),(.bool false),(.bool false),(.bool false),(.bool false),(.bool false),(.bool false),(.bool false),(.bool false),(.bool false),(.bool false),(.bool false),(.bool false),(.bool false),(.bool false),(.bool false),(.bool false),(.bool false),(.bool false),(.bool false),(.bool false),(.bool false),(.bool false),(.bool false),(.bool false),(.bool false),(.bool false),(.bool false),(.bool false),(.bool false),(.bool false),(.bool false),(.bool false),(.bool false),(.bool false),(.bool false),(.bool false),(.bool false),(.bool false),(.bool false),(.bool false),(.bool false),(.bool false),(.bool false),(.bool false),(.bool false),(.bool false),(.bool false),(.bool false),(.bool false),(.bool false),(.bool false),(.bool false),(.bool false),(.bool false),(.bool false),(.bool false),(.bool false),(.bool false),(.bool false),(.bool false),(.bool false),(.bool false),(.bool false),(.bool false),(.bool false),(.bool false),(.bool false),(.bool false),(.bool false),(.bool false),(.bool false),(.bool false),(.bool false),(.bool false),(.bool false),(.bool false),(.bool false),(.bool false),(.bool false),(.bool false),(.bool false),(.bool false),(.bool false),(.bool false),(.bool false),(.bool false),(.bool false),(.bool false),(.bool false),(.bool false),(.bool false),(.bool false),(.bool false),(.bool false),(.bool false),(.bool false),(.bool false),(.bool false),(.bool false),(.bool false),(.bool false),(.bool false),(.bool false),(.bool false),(.bool false),(.bool false),(.bool false),(.bool false),(.bool false),(.bool false),(.bool false),(.bool false),(.bool false),(.bool false),(.bool false),(.bool false),(.bool false),(.bool false),(.bool false),(.bool false),(.bool false),(.bool false),(.bool false),(.bool false),(.bool false),(.bool false),(.bool false),(.bool false),(.bool false),(.bool false),(.bool false),(.bool false),(.bool false),(.bool false),(.bool false),(.bool false),(.bool false),(.bool false),(.bool false),(.bool false),(.bool false),(.bool false),(.bool false),(.bool false),(.bool false),(.bool false),(.bool false),(.bool false),(.bool false),(.bool false),(.bool false),(.bool false),(.bool false),(.bool false),(.bool false),(.bool false),(.bool false),(.bool false),(.bool false),(.bool false),(.bool false),(.bool false),(.bool false),(.bool false),(.bool false),(.bool false),(.bool false),(.bool false),(.bool false),(.bool false),(.bool false),(.bool false),(.bool false),(.bool false),(.bool false),(.bool false),(.bool false),(.bool false),(.bool false),(.bool false),(.bool false),(.bool false),(.bool false),(.bool false),(.bool false),(.bool false),(.bool false),(.bool false),(.bool false),(.bool false),(.bool false),(.bool false),(.bool false),(.bool false),(.bool false),(.bool false),(.bool false),(.bool false),(.bool false),(.bool false),(.bool false),(.bool false),(.bool false),(.bool false),(.bool false),(.bool false),(.bool false),(.bool false),(.bool false),(.bool false),(.bool false),(.bool false),(.bool false),(.bool false),(.bool false),(.bool false),(.bool false),(.bool false),(.bool false),(.bool false),(.bool false),(.bool false),(.bool false),(.bool false),(.bool false),(.bool false),(.bool false),(.bool false),(.bool false),(.bool false),(.bool false),(.bool false),(.bool false),(.bool false),(.bool false),(.bool false),(.bool false),(.bool false),(.bool false),(.bool false),(.bool false),(.bool false),(.bool false),(.bool false),(.bool false),(.bool false),(.bool false),(.bool false),(.bool false),(.bool false),(.bool false),(.bool false),(.bool false),(.bool false),(.bool false),(.bool false),(.bool false),(.bool false),(.bool false),(.bool false),(.bool false),(.bool false),(.bool false),(.bool false),(.bool false),(.bool false),(.bool false),(.bool false),(.bool false),(.bool false),(.bool false),(.bool false),(.bool false),(.bool false),(.bool false),(.bool false),(.bool false),(.bool false),(.bool false),(.bool false),(.bool false),(.bool false),(.bool false),(.bool false),(.bool false),(.bool false),(.bool false),(.bool false),(.bool false),(.bool false),(.bool false),(.bool false),(.bool false),(.bool false),(.bool false),(.bool false),(.bool false),(.bool false),(.bool false),(.bool false),(.bool false),(.bool false),(.bool false),(.bool false),(.bool false),(.bool false),(.bool false),(.bool false),(.bool false),(.bool false),(.bool false),(.bool false),(.bool false),(.bool false),(.bool false),(.bool false),(.bool false),(.bool false),(.bool false),(.bool false),(.bool false),(.bool false),(.bool false),(.bool false),(.bool false),(.bool false),(.bool false),(.bool false),(.bool false),(.bool false),(.bool false),(.bool false),(.bool false),(.bool false),(.bool false),(.bool false),(.bool false),(.bool false),(.bool false),(.bool false),(.bool false),(.bool false),(.bool false),(.bool false),(.bool false),(.bool false),(.bool false),(.bool false),(.bool false),(.bool false),(.bool false),(.bool false),(.bool false),(.bool false),(.bool false),(.bool false),(.bool false),(.bool false),(.bool false),(.bool false),(.bool false),(.bool false),(.bool false),(.bool false),(.bool false),(.bool false),(.bool false),(.bool false),(.bool false),(.bool false),(.bool false),(.bool false),(.bool false),(.bool false),(.bool false),(.bool false),(.bool false),(.bool false),(.bool false),(.bool false),(.bool false),(.bool false),(.bool false),(.bool false),(.bool false),(.bool false),(.bool false),(.bool false),(.bool false),(.bool false),(.bool false),(.bool false),(.bool false),(.bool false),(.bool false),(.bool false),(.bool false),(.bool false),(.bool false),(.bool false)])]
def qbwn:IC:=zr [zm 23 0,zm 24 1,zi 25 (zk 110 [zI 23,((.t 24),(.sl 2))]),zm 26 2,zi 27 (zk 109 [zI 7,((.t 25),(.sl 1)),zI 26])]
def qbby:IC:=zr [zv 8 (.mov (.c .nils))]
def qbvn:IC:=zr [zm 28 0,zv 29 (.mov (zc 0))]
def qbuk:IC:=zr [zv 30 (.bin .lss .no (.t 29) (.t 28))]
def qb04:IC:=zr [zm 31 29,zm 9 31]
def qbgg:IC:=zr [zm 32 9,zv 33 (.aad 1 1000 (.t 7) (.t 32)),zv 34 (zg 1 33)]
def qbdt:IC:=zr [zm 35 8,zm 36 9,zv 37 (.bsl 1 [zI 36]),zi 38 (.app 1 (.int .i64 0) 8 (.sl 1) (.t 35) (.t 37)),zm 8 38]
def qbc2:IC:=zr [zv 39 (.bin .add .no (.t 29) (zc 1)),zm 29 39]
def qbud:IC:=(.seq qbuk (.seq (.cond (.t 30) .skip (.exit 0)) (.seq (.block 1 (.seq qb04 (.seq qbgg (.cond (.t 34) qbdt .skip)))) qbc2)))
def qbit:IC:=zr [zm 40 8,zm 6 40]
def k0g:IC:=(.seq qb1v (.seq (.seq qb22 (.cond (.t 22) (.seq qbz3 .ret) .skip)) (.seq q15 (.seq qbwn (.seq qbby (.seq (.seq qbvn (.block 0 (.loop qbud))) (.seq qbit .ret)))))))
@[go_sem] def s0g:List (RV×Co):=[(.t 6,(.sl 1))]
theorem c0g:cFun Tryz.prog 81 = some (41,k0g,s0g):=by kernel_rfl

def qbso:IC:=zr [zv 4 (.mov (zc 0))]
def qbdg:IC:=zr [zm 6 0,zv 7 (.len false (.t 6)),zv 8 (.mov (zc 0))]
def qbqo:IC:=zr [zv 9 (.bin .lss .no (.t 8) (.t 7))]
def qbom:IC:=zr [zm 10 8,zm 5 10]
def qbgx:IC:=zr [zm 11 1,zm 12 0,zm 13 5,zv 14 (.iad 4 (.t 12) (.t 13)),zv 15 (zl 4 14),zi 16 (.call (.t 11) [((.t 15),(.agg [.id,.id,.id,(.sl 4)]))])]
def qbp4:IC:=zr [zm 17 5,zm 4 17]
def qbod:IC:=zr [zv 18 (.bin .add .no (.t 8) (zc 1)),zm 8 18]
def qblj:IC:=(.seq qbqo (.seq (.cond (.t 9) .skip (.exit 0)) (.seq (.block 1 (.seq qbom (.seq qbgx (.cond (.t 16) (.seq qbp4 .ret) .skip)))) qbod)))
def qbd0:IC:=zr [zv 4 (.mov (zc (-1)))]
def k0dp:IC:=(.seq qbso (.seq (.seq qbdg (.block 0 (.loop qblj))) (.seq qbd0 .ret)))
@[go_sem] def s0dp:List (RV×Co):=[(.t 4,.id)]
theorem c0dp:cFun Tryz.prog 82 = some (19,k0dp,s0dp):=by kernel_rfl

def qb2f:IC:=zr [zi 2 (.box (.t 0)),zv 4 zf]
def qbwj:IC:=zr [zv 6 (zd 2 1),zv 7 (zl 3 6),zi 5 (.alo [(.str []),(.int .i64 0),.nils]),zn (.st 3 (.agg [.id,.id,(.sl 3)]) (.t 5) (.t 7))]
def qb1d:IC:=zr [zv 8 (zd 2 0),zv 9 (zg 1 8),zi 10 (zk 77 [zI 9]),zm 11 10,zw 11 true 12 (zd 5 0),zw 11 true 13 (zg 1 12),zw 11 true 14 (zq (.t 13) (.c (.str []))),zv 15 (.pick (.t 11) (.t 14) (.c (.bool false))),zm 16 15,zw 16 true 17 (zd 5 2),zw 16 true 18 (zg 1 17),zw 16 true 19 (.len false (.t 18)),zw 16 true 20 (zq (.t 19) (zc 0)),zv 21 (.pick (.t 16) (.t 20) (.c (.bool false))),zm 22 21,zw 22 true 23 (zd 5 1),zw 22 true 24 (zg 1 23),zw 22 true 25 (.bin .geq .no (.t 24) (zc 0)),zv 26 (.pick (.t 22) (.t 25) (.c (.bool false))),zm 27 26,zw 27 true 28 (zd 5 1),zw 27 true 29 (zg 1 28),zw 27 true 30 (zo 1),zw 27 true 31 (.bin .lss .no (.t 29) (.t 30)),zv 32 (.pick (.t 27) (.t 31) (.c (.bool false))),zm 4 32]
def k0q:IC:=(.seq qb2f (.seq qbwj (.seq qb1d .ret)))
@[go_sem] def s0q:List (RV×Co):=[(.t 4,.id)]
theorem c0q:cFun Tryz.prog 83 = some (33,k0q,s0q):=by kernel_rfl

def qb19:IC:=zr [zi 1 (.box (.t 0)),zv 2 (.mov (zc 0))]
def qbz6:IC:=zr [zv 3 (.mov (zc 1))]
def qbuv:IC:=zr [zv 6 (zd 1 3),zv 7 (zg 1 6),zv 8 (.len false (.t 7)),zv 9 (.mov (zc 0))]
def qbwe:IC:=zr [zv 10 (.bin .lss .no (.t 9) (.t 8))]
def qbw5:IC:=zr [zv 11 (.iad 4 (.t 7) (.t 9)),zv 12 (zl 4 11),zi 5 (.alo [(.int .i64 0),(.int .i64 0),.nils,.nils]),zn (.st 4 (.agg [.id,.id,(.sl 3),(.sl 4)]) (.t 5) (.t 12))]
def qbzx:IC:=zr [zm 13 3,zv 14 (zl 4 5),zi 15 (zk 84 [((.t 14),(.agg [.id,.id,(.sl 3),(.sl 4)]))]),zv 16 (.bin .add .no (.t 13) (.t 15)),zm 3 16]
def qbz8:IC:=zr [zv 17 (.bin .add .no (.t 9) (zc 1)),zm 9 17]
def qb0z:IC:=(.seq qbwe (.seq (.cond (.t 10) .skip (.exit 0)) (.seq (.block 1 (.seq qbw5 qbzx)) qbz8)))
def qbzd:IC:=zr [zm 18 3,zm 2 18]
def k0b:IC:=(.seq qb19 (.seq qbz6 (.seq (.seq qbuv (.block 0 (.loop qb0z))) (.seq qbzd .ret))))
@[go_sem] def s0b:List (RV×Co):=[(.t 2,.id)]
theorem c0b:cFun Tryz.prog 84 = some (19,k0b,s0b):=by kernel_rfl

def qb1q:IC:=zr [zi 3 (.box (.t 1)),zv 4 (.mov (zc 0)),zv 5 (.mov (.c .nils)),zv 6 zf]
def qbxr:IC:=zr [zm 15 0,zv 16 (zd 3 0),zv 17 (zg 1 16),zv 18 (zd 3 1),zv 19 (zd 18 0),zv 20 (zg 1 19),zi 21 (zk 111 [((.t 15),(.sl 4)),zI 17,zI 20]),zm 14 21,zv 22 (zx 14 0),zv 23 (zx 14 1),zm 7 22,zm 8 23]
def qbuo:IC:=.drw [zp (zm 24 8),zp (zv 25 (.un .not (.t 24))),zp (zm 26 25),zp (zw 26 false 27 (zd 3 1)),zp (zw 26 false 28 (zd 27 0)),zp (zw 26 false 29 (zg 1 28)),(zw 26 false 30 (zq (.t 29) (.c (.str []))),[]),zp (zv 31 (.pick (.t 26) (.c (.bool true)) (.t 30))),zp (zm 32 31),zp (zw 32 false 33 (zo 0)),zp (zw 32 false 34 (zo 7)),zp (zw 32 false 35 (.iad 4 (.t 33) (.t 34))),zp (zw 32 false 36 (zd 35 2)),zp (zw 32 false 37 (zg 1 36)),zp (zw 32 false 38 (zd 3 1)),zp (zw 32 false 39 (zd 38 2)),zp (zw 32 false 40 (zg 1 39)),zp (zw 32 false 41 (.len false (.t 40))),zp (zw 32 false 42 (.bin .neq .no (.t 37) (.t 41))),zp (zv 43 (.pick (.t 32) (.c (.bool true)) (.t 42)))]
def qbyv:IC:=zr [zv 4 (.mov (zc 0)),zv 5 (.mov (.c .nils)),zv 6 zf]
def qb03:IC:=zr [zi 44 (zk 86 [((.c .nils),(.sl 4))]),zm 9 44]
def qbx8:IC:=zr [zv 45 (zd 3 1),zv 46 (zd 45 2),zv 47 (zg 1 46),zv 48 (.len false (.t 47)),zv 49 (.mov (zc 0))]
def qbwi:IC:=zr [zv 50 (.bin .lss .no (.t 49) (.t 48))]
def qbxw:IC:=zr [zm 51 49,zv 52 (.iad 3 (.t 47) (.t 49)),zv 53 (zl 3 52),zi 11 (.alo [(.str []),(.int .i64 0),.nils]),zm 10 51,zn (.st 3 (.agg [.id,.id,(.sl 3)]) (.t 11) (.t 53))]
def qbwb:IC:=zr [zm 54 9,zm 55 10,zv 56 (zl 3 11),zi 57 (zk 112 [zI 54,zI 55,((.t 56),(.agg [.id,.id,(.sl 3)]))])]
def qbs2:IC:=zr [zv 58 (.bin .add .no (.t 49) (zc 1)),zm 49 58]
def qbw7:IC:=(.seq qbwi (.seq (.cond (.t 50) .skip (.exit 0)) (.seq (.block 1 (.seq qbxw qbwb)) qbs2)))
def qbtm:IC:=zr [zm 60 9,zm 61 0,zm 62 7,zv 63 (.iad 4 (.t 61) (.t 62)),zv 64 (zd 63 3),zv 65 (zg 1 64),zi 66 (zk 113 [zI 60,((.t 65),(.sl 4))]),zm 59 66,zv 67 (zx 59 0),zv 68 (zx 59 1),zm 12 67,zm 13 68]
def qbjj:IC:=zr [zm 69 7,zm 70 12,zm 4 69,zm 5 70,zv 6 (.mov (.c (.bool true)))]
def k0s:IC:=(.seq qb1q (.seq qbxr (.seq (.seq qbuo (.cond (.t 43) (.seq qbyv .ret) .skip)) (.seq qb03 (.seq (.seq qbx8 (.block 0 (.loop qbw7))) (.seq qbtm (.seq qbjj .ret)))))))
@[go_sem] def s0s:List (RV×Co):=[(.t 4,.id),(.t 5,(.sl 4)),(.t 6,.id)]
theorem c0s:cFun Tryz.prog 85 = some (71,k0s,s0s):=by kernel_rfl

def qbxx:IC:=zr [zv 2 (.mov (.c .nilp))]
def qbyn:IC:=zr [zv 6 (.bld [.nils] []),zi 7 (.box (.t 6)),zm 3 7]
def qb2s:IC:=zr [zm 8 0,zv 9 (.len false (.t 8)),zv 10 (.mov (zc 0))]
def qbvs:IC:=zr [zv 11 (.bin .lss .no (.t 10) (.t 9))]
def qbuc:IC:=zr [zv 12 (.iad 4 (.t 8) (.t 10)),zv 13 (zl 4 12),zi 5 (.alo [(.int .i64 0),(.str []),(.int .i64 0),.nils]),zn (.st 4 (.agg [.id,.id,.id,(.sl 3)]) (.t 5) (.t 13))]
def qb1r:IC:=zr [zm 14 3,zv 15 (zd 5 0),zv 16 (zg 1 15),zv 17 (zd 5 1),zv 18 (zl 3 17),zi 19 (zk 112 [zI 14,zI 16,((.t 18),(.agg [.id,.id,(.sl 3)]))])]
def qbyy:IC:=zr [zv 20 (.bin .add .no (.t 10) (zc 1)),zm 10 20]
def qbu2:IC:=(.seq qbvs (.seq (.cond (.t 11) .skip (.exit 0)) (.seq (.block 1 (.seq qbuc qb1r)) qbyy)))
def qbzj:IC:=zr [zm 21 3,zm 2 21]
def k0v:IC:=(.seq qbxx (.seq qbyn (.seq (.seq qb2s (.block 0 (.loop qbu2))) (.seq qbzj .ret))))
@[go_sem] def s0v:List (RV×Co):=[(.t 2,.id)]
theorem c0v:cFun Tryz.prog 86 = some (22,k0v,s0v):=by kernel_rfl

def qbul:IC:=zr [zi 3 (.box (.t 1)),zi 4 (.alo [(.str []),(.int .i64 0),.nils]),zv 5 (.mov (zc 0))]
def qb00:IC:=zr [zv 8 (zl 3 3),zi 9 (zk 68 [((.t 8),(.agg [.id,.id,(.sl 3)]))]),zv 10 (.un .not (.t 9))]
def qb10:IC:=zr [zv 11 (.bld [(.str []),(.int .i64 0),.nils] []),zn (.st 3 (.agg [.id,.id,(.sl 3)]) (.t 4) (.t 11)),zv 5 (.mov (zc 1))]
def qb05:IC:=zr [zm 12 0,zv 13 (.bld [.nilp,(.int .i64 0)] [(0,1,(.t 12)),(1,1,(zc 4096))]),zi 14 (.box (.t 13)),zm 6 14]
def qb1a:IC:=zr [zm 15 6,zv 16 (zl 3 3),zi 17 (zk 114 [zI 15,((.t 16),(.agg [.id,.id,(.sl 3)])),((zc 1),.id)]),zi 7 (.alo [(.str []),(.int .i64 0),.nils]),zn (.st 3 (.agg [.id,.id,(.sl 3)]) (.t 7) (.t 17))]
def qb1y:IC:=zr [zm 18 6,zv 19 (.nck (.t 18)),zv 20 (zd 19 1),zv 21 (zg 1 20),zv 22 (.bin .lss .no (.t 21) (zc 0))]
def qb0k:IC:=zr [zv 23 (.bld [(.str []),(.int .i64 0),.nils] []),zn (.st 3 (.agg [.id,.id,(.sl 3)]) (.t 4) (.t 23)),zv 5 (.mov (zc 2))]
def qbze:IC:=zr [zv 24 (zl 3 7),zn (.st 3 (.agg [.id,.id,(.sl 3)]) (.t 4) (.t 24)),zv 5 (.mov (zc 0))]
def k0u:IC:=(.seq qbul (.seq (.seq qb00 (.cond (.t 10) (.seq qb10 .ret) .skip)) (.seq qb05 (.seq qb1a (.seq (.seq qb1y (.cond (.t 22) (.seq qb0k .ret) .skip)) (.seq qbze .ret))))))
@[go_sem] def s0u:List (RV×Co):=[(.c true 3 4,(.agg [.id,.id,(.sl 3)])),(.t 5,.id)]
theorem c0u:cFun Tryz.prog 87 = some (25,k0u,s0u):=by kernel_rfl

def qbjv:IC:=zr [zv 2 (.mov (zc 0)),zv 3 (.mov (zc 0))]
def qbcs:IC:=zr [zm 8 0,zv 9 (zq (.t 8) (.c (.str [])))]
def qbth:IC:=zr [zv 2 (.mov (zc 0)),zv 3 (.mov (zc 5))]
def qbiv:IC:=zr [zv 4 (.mov (zc 0))]
def qbsk:IC:=zr [zm 10 4,zm 11 0,zv 12 (.len true (.t 11)),zv 13 (.bin .lss .no (.t 10) (.t 12))]
def qbfj:IC:=zr [zm 16 0,zm 17 4,zv 18 (.idx (.t 16) (.t 17)),zv 19 (.bin .lss .no (.t 18) (.c (.int .u8 48))),zm 20 19,zw 20 false 21 (zo 0),zw 20 false 22 (zo 4),zw 20 false 23 (.idx (.t 21) (.t 22)),zw 20 false 24 (.bin .gtr .no (.t 23) (.c (.int .u8 57))),zv 25 (.pick (.t 20) (.c (.bool true)) (.t 24))]
def qbou:IC:=zr [zv 2 (.mov (zc 0)),zv 3 (.mov (zc 5))]
def qbsb:IC:=zr [zm 14 4,zv 15 (.bin .add .no (.t 14) (zc 1)),zm 4 15]
def qbge:IC:=(.seq (.seq qbsk (.cond (.t 13) .skip (.exit 0))) (.seq (.block 1 (.seq qbfj (.cond (.t 25) (.seq qbou .ret) .skip))) qbsb))
def q5t:IC:=zr [zv 5 (.mov (zc 0))]
def q8f:IC:=zr [zv 6 (.mov (zc 0))]
def q9b:IC:=zr [zm 26 6,zm 27 0,zv 28 (.len true (.t 27)),zv 29 (.bin .lss .no (.t 26) (.t 28))]
def qbbf:IC:=zr [zm 32 0,zm 33 6,zv 34 (.idx (.t 32) (.t 33)),zv 35 (.bin .sub .no (.t 34) (.c (.int .u8 48))),zv 36 (.cvi .i64 (.t 35)),zm 7 36]
def q82:IC:=zr [zm 37 5,zm 38 7,zv 39 (.bin .sub .no (zc 9223372036854775807) (.t 38)),zv 40 (.bin .quo .no (.t 39) (zc 10)),zv 41 (.bin .gtr .no (.t 37) (.t 40))]
def q6s:IC:=zr [zv 2 (.mov (zc 0)),zv 3 (.mov (zc 4))]
def qbab:IC:=zr [zm 42 5,zv 43 (.bin .mul .no (zc 10) (.t 42)),zm 44 7,zv 45 (.bin .add .no (.t 43) (.t 44)),zm 5 45]
def q8i:IC:=zr [zm 30 6,zv 31 (.bin .add .no (.t 30) (zc 1)),zm 6 31]
def q87:IC:=(.seq (.seq q9b (.cond (.t 29) .skip (.exit 2))) (.seq (.block 3 (.seq qbbf (.seq (.seq q82 (.cond (.t 41) (.seq q6s .ret) .skip)) qbab))) q8i))
def q5f:IC:=zr [zm 46 5,zm 2 46,zv 3 (.mov (zc 0))]
def k0ce:IC:=(.seq qbjv (.seq (.seq qbcs (.cond (.t 9) (.seq qbth .ret) .skip)) (.seq (.seq qbiv (.block 0 (.loop qbge))) (.seq q5t (.seq (.seq q8f (.block 2 (.loop q87))) (.seq q5f .ret))))))
@[go_sem] def s0ce:List (RV×Co):=[(.t 2,.id),(.t 3,.id)]
theorem c0ce:cFun Tryz.prog 88 = some (47,k0ce,s0ce):=by kernel_rfl

def qbim:IC:=zr [zv 2 (.mov (.c (.str [])))]
def qbqj:IC:=zr [zm 5 0,zi 6 (zk 115 [zI 5]),zm 3 6]
def qbnc:IC:=zr [zv 4 (.mov (.c (.str [])))]
def qbtb:IC:=zr [zm 7 3,zv 8 (.bin .gtr .no (.t 7) (.c (.int .u64 9)))]
def qbik:IC:=zr [zm 9 3,zv 10 (.bin .rem .no (.t 9) (.c (.int .u64 10))),zv 11 (.bin .add .no (.c (.int .u64 48)) (.t 10)),zv 12 (.cvi .u8 (.t 11)),zv 13 (.bsl 1 [zI 12]),zv 14 (.cbs (.t 13)),zm 15 4,zv 16 (.bin .add .no (.t 14) (.t 15)),zm 4 16]
def qbfk:IC:=zr [zm 17 3,zv 18 (.bin .quo .no (.t 17) (.c (.int .u64 10))),zm 3 18]
def qbsq:IC:=(.seq (.seq qbtb (.cond (.t 8) .skip (.exit 0))) (.block 1 (.seq qbik qbfk)))
def qbir:IC:=zr [zm 19 3,zv 20 (.bin .add .no (.c (.int .u64 48)) (.t 19)),zv 21 (.cvi .u8 (.t 20)),zv 22 (.bsl 1 [zI 21]),zv 23 (.cbs (.t 22)),zm 24 4,zv 25 (.bin .add .no (.t 23) (.t 24)),zm 4 25]
def qbn1:IC:=zr [zm 26 0,zv 27 (.bin .lss .no (.t 26) (zc 0))]
def q74:IC:=zr [zm 28 4,zv 29 (.bin .add .no (.c (.str [45])) (.t 28)),zm 2 29]
def q7o:IC:=zr [zm 30 4,zm 2 30]
def k0cr:IC:=(.seq qbim (.seq qbqj (.seq qbnc (.seq (.block 0 (.loop qbsq)) (.seq qbir (.seq (.seq qbn1 (.cond (.t 27) (.seq q74 .ret) .skip)) (.seq q7o .ret)))))))
@[go_sem] def s0cr:List (RV×Co):=[(.t 2,.id)]
theorem c0cr:cFun Tryz.prog 89 = some (31,k0cr,s0cr):=by kernel_rfl

def qbnp:IC:=zr [zv 2 zf]
def qbiq:IC:=zr [zm 3 0,zi 4 (zk 116 [zI 3]),zm 5 4,zw 5 false 6 (zo 0),zj 5 false 7 (zk 55 [zI 6]),zv 8 (.pick (.t 5) (.c (.bool true)) (.t 7)),zm 9 8,zw 9 false 10 (zo 0),zj 9 false 11 (zk 117 [zI 10]),zv 12 (.pick (.t 9) (.c (.bool true)) (.t 11)),zm 13 12,zw 13 false 14 (zo 0),zw 13 false 15 (zq (.t 14) (.c (.int .u8 39))),zv 16 (.pick (.t 13) (.c (.bool true)) (.t 15)),zm 2 16]
def k0cl:IC:=(.seq qbnp (.seq qbiq .ret))
@[go_sem] def s0cl:List (RV×Co):=[(.t 2,.id)]
theorem c0cl:cFun Tryz.prog 90 = some (17,k0cl,s0cl):=by kernel_rfl

def qbn2:IC:=zr [zi 2 (.alo [(.str []),(.int .i64 0),.nils])]
def qbhw:IC:=zr [zm 6 0,zi 7 (zk 125 [zI 6]),zm 3 7]
def qbki:IC:=zr [zm 8 3,zv 9 (.bin .geq .no (.t 8) (zc 0))]
def qbse:IC:=zr [zm 10 3,zv 11 (.bld [(.str []),(.int .i64 0),.nils] [(1,1,(.t 10))]),zn (.st 3 (.agg [.id,.id,(.sl 3)]) (.t 2) (.t 11))]
def qbkx:IC:=zr [zm 12 0,zi 13 (zk 65 [zI 12,((.c (.str [63])),.id)])]
def qbqr:IC:=zr [zm 15 0,zv 16 (.sls (.t 15) (some (zc 1)) none),zi 17 (zk 126 [zI 16]),zm 14 17,zv 18 (zx 14 0),zv 19 (zx 14 1),zm 4 18,zm 5 19]
def qbib:IC:=zr [zm 20 5,zv 21 (zq (.t 20) (zc 0))]
def qblr:IC:=zr [zm 22 4,zv 23 (.bin .sub .no (zc (-1)) (.t 22)),zv 24 (.bld [(.str []),(.int .i64 0),.nils] [(1,1,(.t 23))]),zn (.st 3 (.agg [.id,.id,(.sl 3)]) (.t 2) (.t 24))]
def qbqp:IC:=zr [zm 25 0,zv 26 (.bld [(.str []),(.int .i64 0),.nils] [(0,1,(.t 25))]),zn (.st 3 (.agg [.id,.id,(.sl 3)]) (.t 2) (.t 26))]
def k0dv:IC:=(.seq qbn2 (.seq (.seq qbhw (.seq qbki (.cond (.t 9) (.seq qbse .ret) .skip))) (.seq (.seq qbkx (.cond (.t 13) (.seq qbqr (.seq qbib (.cond (.t 21) (.seq qblr .ret) .skip))) .skip)) (.seq qbqp .ret))))
@[go_sem] def s0dv:List (RV×Co):=[(.c true 3 2,(.agg [.id,.id,(.sl 3)]))]
theorem c0dv:cFun Tryz.prog 95 = some (27,k0dv,s0dv):=by kernel_rfl

def qbhc:IC:=zr [zv 4 zf]
def qbk4:IC:=zr [zm 5 0,zv 6 (.len true (.t 5)),zm 7 1,zv 8 (.len true (.t 7)),zv 9 (.bin .geq .no (.t 6) (.t 8)),zm 10 9,zw 10 true 11 (zo 0),zw 10 true 12 (zo 1),zw 10 true 13 (.len true (.t 12)),zw 10 true 14 (.sls (.t 11) none (some (.t 13))),zw 10 true 15 (zo 1),zw 10 true 16 (zq (.t 14) (.t 15)),zv 17 (.pick (.t 10) (.t 16) (.c (.bool false))),zm 4 17]
def k0cc:IC:=(.seq qbhc (.seq qbk4 .ret))
@[go_sem] def s0cc:List (RV×Co):=[(.t 4,.id)]
theorem c0cc:cFun Tryz.prog 96 = some (18,k0cc,s0cc):=by kernel_rfl

def qbjw:IC:=zr [zi 3 (.box (.t 0)),zv 6 zf]
def qbde:IC:=zr [zm 9 2,zv 10 (zl 3 3),zm 11 1,zi 12 (.call (.t 9) [((.t 10),(.agg [.id,.id,(.sl 3)])),zI 11]),zv 13 (.un .not (.t 12))]
def qbm8:IC:=zr [zv 6 zf]
def qbl1:IC:=zr [zv 14 (zd 3 2),zv 15 (zg 1 14),zv 16 (.len false (.t 15)),zv 17 (.mov (zc 0))]
def qbk3:IC:=zr [zv 18 (.bin .lss .no (.t 17) (.t 16))]
def qbrx:IC:=zr [zv 19 (.iad 3 (.t 15) (.t 17)),zv 20 (zl 3 19),zi 8 (.alo [(.str []),(.int .i64 0),.nils]),zn (.st 3 (.agg [.id,.id,(.sl 3)]) (.t 8) (.t 20))]
def qbtr:IC:=zr [zv 21 (zl 3 8),zm 22 1,zv 23 (.bin .add .no (.t 22) (zc 1)),zm 24 2,zi 25 (zk 97 [((.t 21),(.agg [.id,.id,(.sl 3)])),zI 23,zI 24]),zv 26 (.un .not (.t 25))]
def qblt:IC:=zr [zv 6 zf]
def qbeb:IC:=zr [zv 27 (.bin .add .no (.t 17) (zc 1)),zm 17 27]
def qbn4:IC:=(.seq qbk3 (.seq (.cond (.t 18) .skip (.exit 0)) (.seq (.block 1 (.seq qbrx (.seq qbtr (.cond (.t 26) (.seq qblt .ret) .skip)))) qbeb)))
def q7z:IC:=zr [zv 6 (.mov (.c (.bool true)))]
def k0cb:IC:=(.seq qbjw (.seq (.seq qbde (.cond (.t 13) (.seq qbm8 .ret) .skip)) (.seq (.seq qbl1 (.block 0 (.loop qbn4))) (.seq q7z .ret))))
@[go_sem] def s0cb:List (RV×Co):=[(.t 6,.id)]
theorem c0cb:cFun Tryz.prog 97 = some (28,k0cb,s0cb):=by kernel_rfl

def qbgw:IC:=zr [zi 3 (.box (.t 0)),zv 5 zf]
def qbgy:IC:=zr [zv 6 (zg 1 2),zv 7 (.bin .add .no (.t 6) (zc 1)),zn (.st 1 .id (.t 2) (.t 7))]
def qbt2:IC:=zr [zv 8 (zg 1 2),zv 9 (.bin .leq .no (.t 8) (zc 4096)),zm 10 9,zw 10 true 11 (zo 1),zw 10 true 12 (.bin .leq .no (.t 11) (zc 100)),zv 13 (.pick (.t 10) (.t 12) (.c (.bool false))),zm 14 13,zw 14 true 15 (zl 3 3),zj 14 true 16 (zk 70 [((.t 15),(.agg [.id,.id,(.sl 3)]))]),zj 14 true 17 (zk 99 [zI 16]),zv 18 (.pick (.t 14) (.t 17) (.c (.bool false))),zm 5 18]
def k0bh:IC:=(.seq qbgw (.seq qbgy (.seq qbt2 .ret)))
@[go_sem] def s0bh:List (RV×Co):=[(.t 5,.id)]
theorem c0bh:cFun Tryz.prog 98 = some (19,k0bh,s0bh):=by kernel_rfl

def qben:IC:=zr [zi 1 (.box (.t 0)),zv 2 zf]
def qbdx:IC:=zr [zv 4 (zd 1 0),zv 5 (zg 1 4),zv 6 (zq (.t 5) (.c (.str []))),zm 3 6]
def qbr6:IC:=zr [zv 7 (zd 1 2),zv 8 (zg 1 7),zv 9 (zq (.t 8) (zc 0)),zm 2 9]
def qbks:IC:=zr [zv 11 (zd 1 0),zv 12 (zg 1 11),zv 13 (zq (.t 12) (.c (.str [45,62]))),zm 10 13]
def qbc0:IC:=zr [zv 14 (zl 3 1),zv 15 (.bld [(.str []),(.int .i64 0),(.int .i64 0)] [(0,1,(.c (.str [45,62]))),(1,1,(zc 0)),(2,1,(zc 2))]),zv 16 (.bin .eql (.cells [.str,(.int .i64),(.int .i64)]) (.t 14) (.t 15)),zm 2 16]
def qbre:IC:=zr [zv 18 (zd 1 0),zv 19 (zg 1 18),zi 20 (zk 127 [zI 19]),zm 17 20]
def qbto:IC:=zr [zv 21 (zl 3 1),zv 22 (zd 1 0),zv 23 (zg 1 22),zv 24 (.bld [(.str []),(.int .i64 0),(.int .i64 0)] [(0,1,(.t 23))]),zv 25 (.bin .eql (.cells [.str,(.int .i64),(.int .i64)]) (.t 21) (.t 24)),zm 2 25]
def qbg9:IC:=zr [zv 26 (zd 1 1),zv 27 (zg 1 26),zv 28 (zq (.t 27) (zc 0)),zm 29 28,zw 29 true 30 (zd 1 0),zw 29 true 31 (zg 1 30),zj 29 true 32 (zk 77 [zI 31]),zv 33 (.pick (.t 29) (.t 32) (.c (.bool false))),zm 2 33]
def k0ca:IC:=(.seq qben (.seq (.block 0 (.seq qbdx (.cond (.t 3) (.seq qbr6 .ret) (.seq qbks (.cond (.t 10) (.seq qbc0 .ret) (.seq qbre (.cond (.t 17) (.seq qbto .ret) .skip))))))) (.seq qbg9 .ret)))
@[go_sem] def s0ca:List (RV×Co):=[(.t 2,.id)]
theorem c0ca:cFun Tryz.prog 99 = some (34,k0ca,s0ca):=by kernel_rfl

def qbis:IC:=zr [zi 2 (.box (.t 0)),zv 4 (.mov (.c (.str [])))]
def qbee:IC:=zr [zm 5 1]
def qbf5:IC:=zr [zv 6 (zl 3 2),zi 7 (zk 69 [((.t 6),(.agg [.id,.id,(.sl 3)]))]),zv 8 (.bin .add .no (.c (.str [40])) (.t 7)),zv 9 (.bin .add .no (.t 8) (.c (.str [41]))),zm 4 9]
def qbtd:IC:=zr [zv 10 (zl 3 2),zi 11 (zk 69 [((.t 10),(.agg [.id,.id,(.sl 3)]))]),zm 4 11]
def k0be:IC:=(.seq qbis (.seq (.seq qbee (.cond (.t 5) (.seq qbf5 .ret) .skip)) (.seq qbtd .ret)))
@[go_sem] def s0be:List (RV×Co):=[(.t 4,.id)]
theorem c0be:cFun Tryz.prog 100 = some (12,k0be,s0be):=by kernel_rfl

def qbrr:IC:=zr [zi 1 (.box (.t 0)),zv 2 (.mov (.c (.str [])))]
def qbk6:IC:=zr [zv 4 (zd 1 0),zv 5 (zg 1 4),zv 6 (.bin .neq .no (.t 5) (.c (.str []))),zm 3 6]
def qbcq:IC:=zr [zv 7 (zd 1 0),zv 8 (zg 1 7),zm 2 8]
def qbgn:IC:=zr [zv 10 (zd 1 1),zv 11 (zg 1 10),zv 12 (.bin .geq .no (.t 11) (zc 0)),zm 9 12]
def qbql:IC:=zr [zv 13 (zd 1 1),zv 14 (zg 1 13),zi 15 (zk 128 [zI 14]),zm 2 15]
def qbh4:IC:=zr [zv 16 (zd 1 1),zv 17 (zg 1 16),zv 18 (.bin .sub .no (zc (-1)) (.t 17)),zi 19 (zk 44 [zI 18]),zv 20 (.bin .add .no (.c (.str [63])) (.t 19)),zm 2 20]
def k0bd:IC:=(.seq qbrr (.seq (.block 0 (.seq qbk6 (.cond (.t 3) (.seq qbcq .ret) (.seq qbgn (.cond (.t 9) (.seq qbql .ret) .skip))))) (.seq qbh4 .ret)))
@[go_sem] def s0bd:List (RV×Co):=[(.t 2,.id)]
theorem c0bd:cFun Tryz.prog 101 = some (21,k0bd,s0bd):=by kernel_rfl

def qbqs:IC:=zr [zv 2 zf]
def qbdy:IC:=zr [zm 3 0,zv 4 (.bin .geq .no (.t 3) (.c (.int .u8 65))),zm 5 4,zw 5 true 6 (zo 0),zw 5 true 7 (.bin .leq .no (.t 6) (.c (.int .u8 90))),zv 8 (.pick (.t 5) (.t 7) (.c (.bool false))),zm 2 8]
def k0ci:IC:=(.seq qbqs (.seq qbdy .ret))
@[go_sem] def s0ci:List (RV×Co):=[(.t 2,.id)]
theorem c0ci:cFun Tryz.prog 104 = some (9,k0ci,s0ci):=by kernel_rfl

def qbp6:IC:=zr [zv 2 zf]
def qbps:IC:=zr [zm 5 0,zv 6 (.len true (.t 5)),zv 7 (.mov (zc 0))]
def qbkn:IC:=zr [zv 8 (.bin .lss .no (.t 7) (.t 6))]
def qbqi:IC:=zr [zm 9 7,zm 3 9]
def qbfg:IC:=zr [zm 10 0,zm 11 3,zv 12 (.idx (.t 10) (.t 11)),zm 4 12]
def qbkq:IC:=zr [zm 13 4,zi 14 (zk 131 [zI 13]),zv 15 (.un .not (.t 14)),zm 16 15,zw 16 true 17 (zo 4),zj 16 true 18 (zk 104 [zI 17]),zw 16 true 19 (.un .not (.t 18)),zv 20 (.pick (.t 16) (.t 19) (.c (.bool false))),zm 21 20,zw 21 true 22 (zo 4),zw 21 true 23 (.bin .lss .no (.t 22) (.c (.int .u8 48))),zw 21 true 24 (zo 23),zw 24 false 25 (zo 4),zw 24 false 26 (.bin .gtr .no (.t 25) (.c (.int .u8 57))),zw 21 true 27 (.pick (.t 24) (.c (.bool true)) (.t 26)),zv 28 (.pick (.t 21) (.t 27) (.c (.bool false))),zm 29 28,zw 29 true 30 (zo 4),zw 29 true 31 (.bin .neq .no (.t 30) (.c (.int .u8 39))),zv 32 (.pick (.t 29) (.t 31) (.c (.bool false)))]
def qbcj:IC:=zr [zv 2 zf]
def qbru:IC:=zr [zv 33 (.bin .add .no (.t 7) (zc 1)),zm 7 33]
def qbh5:IC:=(.seq qbkn (.seq (.cond (.t 8) .skip (.exit 0)) (.seq (.block 1 (.seq qbqi (.seq qbfg (.seq qbkq (.cond (.t 32) (.seq qbcj .ret) .skip))))) qbru)))
def q5j:IC:=zr [zv 2 (.mov (.c (.bool true)))]
def k0cm:IC:=(.seq qbp6 (.seq (.seq qbps (.block 0 (.loop qbh5))) (.seq q5j .ret)))
@[go_sem] def s0cm:List (RV×Co):=[(.t 2,.id)]
theorem c0cm:cFun Tryz.prog 105 = some (34,k0cm,s0cm):=by kernel_rfl

def qby4:IC:=zr [zv 4 zf]
def qbwk:IC:=zr [zm 5 0,zm 6 1,zi 7 (zk 132 [((.t 5),(.sl 1)),zI 6]),zv 8 (.bin .geq .no (.t 7) (zc 0)),zm 4 8]
def k0m:IC:=(.seq qby4 (.seq qbwk .ret))
@[go_sem] def s0m:List (RV×Co):=[(.t 4,.id)]
theorem c0m:cFun Tryz.prog 106 = some (9,k0m,s0m):=by kernel_rfl

def qbrb:IC:=zr [zv 4 (.mov (zc 0))]
def qbnw:IC:=zr [zm 6 0,zv 7 (.len false (.t 6)),zv 8 (.mov (zc 0))]
def qbfm:IC:=zr [zv 9 (.bin .lss .no (.t 8) (.t 7))]
def qbo4:IC:=zr [zm 10 8,zm 5 10]
def qbka:IC:=zr [zm 11 1,zm 12 0,zm 13 5,zv 14 (.iad 1 (.t 12) (.t 13)),zv 15 (zg 1 14),zv 16 (zq (.t 11) (.t 15))]
def qblb:IC:=zr [zm 17 5,zm 4 17]
def qbdc:IC:=zr [zv 18 (.bin .add .no (.t 8) (zc 1)),zm 8 18]
def qbla:IC:=(.seq qbfm (.seq (.cond (.t 9) .skip (.exit 0)) (.seq (.block 1 (.seq qbo4 (.seq qbka (.cond (.t 16) (.seq qblb .ret) .skip)))) qbdc)))
def qbmm:IC:=zr [zv 4 (.mov (zc (-1)))]
def k0bt:IC:=(.seq qbrb (.seq (.seq qbnw (.block 0 (.loop qbla))) (.seq qbmm .ret)))
@[go_sem] def s0bt:List (RV×Co):=[(.t 4,.id)]
theorem c0bt:cFun Tryz.prog 107 = some (19,k0bt,s0bt):=by kernel_rfl

def qb0h:IC:=zr [zv 4 (.mov (zc 0))]
def qb0d:IC:=zr [zm 7 0,zv 8 (.bin .lss .no (.t 7) (zc 0)),zm 9 8,zw 9 false 10 (zo 0),zw 9 false 11 (.bin .gtr .no (.t 10) (zc 1000)),zv 12 (.pick (.t 9) (.c (.bool true)) (.t 11))]
def qb2x:IC:=zr [zv 4 (.mov (zc 1))]
def qb1i:IC:=zr [zm 13 1,zv 14 (.len false (.t 13)),zv 15 (.mov (zc 0))]
def qbyr:IC:=zr [zv 16 (.bin .lss .no (.t 15) (.t 14))]
def qbuh:IC:=zr [zv 17 (.iad 2 (.t 13) (.t 15)),zv 18 (zl 2 17),zi 6 (.alo [(.int .i64 0),(.int .i64 0)]),zn (.st 2 .id (.t 6) (.t 18))]
def qbvr:IC:=zr [zv 19 (zd 6 0),zv 20 (zg 1 19),zv 21 (zd 6 1),zv 22 (zg 1 21),zv 23 (.mm false (.t 20) (.t 22)),zv 24 (.bin .lss .no (.t 23) (zc 0)),zm 25 24,zw 25 false 26 (zd 6 0),zw 25 false 27 (zg 1 26),zw 25 false 28 (zd 6 1),zw 25 false 29 (zg 1 28),zw 25 false 30 (.mm true (.t 27) (.t 29)),zw 25 false 31 (zo 0),zw 25 false 32 (.bin .geq .no (.t 30) (.t 31)),zv 33 (.pick (.t 25) (.c (.bool true)) (.t 32))]
def qbwo:IC:=zr [zv 4 (.mov (zc 1))]
def qbvd:IC:=zr [zv 34 (.bin .add .no (.t 15) (zc 1)),zm 15 34]
def qbx9:IC:=(.seq qbyr (.seq (.cond (.t 16) .skip (.exit 0)) (.seq (.block 1 (.seq qbuh (.seq qbvr (.cond (.t 33) (.seq qbwo .ret) .skip)))) qbvd)))
def qbes:IC:=zr [zv 4 (.mov (zc 0))]
def k0j:IC:=(.seq qb0h (.seq (.seq qb0d (.cond (.t 12) (.seq qb2x .ret) .skip)) (.seq (.seq qb1i (.block 0 (.loop qbx9))) (.seq qbes .ret))))
@[go_sem] def s0j:List (RV×Co):=[(.t 4,.id)]
theorem c0j:cFun Tryz.prog 108 = some (35,k0j,s0j):=by kernel_rfl

def qbxu:IC:=zr [zm 8 1,zm 9 2,zv 10 (.iad 1 (.t 8) (.t 9)),zv 11 (zg 1 10),zv 12 (.len false (.t 11)),zv 13 (.mov (zc 0))]
def qbvy:IC:=zr [zv 14 (.bin .lss .no (.t 13) (.t 12))]
def qbu9:IC:=zr [zv 15 (.iad 1 (.t 11) (.t 13)),zv 16 (zg 1 15),zm 7 16]
def qbzr:IC:=zr [zm 17 0,zm 18 7,zv 19 (.nck (.t 17)),zv 20 (.aad 1 1000 (.t 19) (.t 18)),zv 21 (zg 1 20),zv 22 (.un .not (.t 21))]
def qb07:IC:=zr [zm 23 0,zm 24 7,zv 25 (.nck (.t 23)),zv 26 (.aad 1 1000 (.t 25) (.t 24)),zn (.st 1 .id (.t 26) (.c (.bool true)))]
def qbvf:IC:=zr [zm 27 0,zm 28 1,zm 29 7,zi 30 (zk 109 [zI 27,((.t 28),(.sl 1)),zI 29])]
def qbv4:IC:=zr [zv 31 (.bin .add .no (.t 13) (zc 1)),zm 13 31]
def qbzn:IC:=(.seq qbvy (.seq (.cond (.t 14) .skip (.exit 0)) (.seq (.block 1 (.seq qbu9 (.seq qbzr (.cond (.t 22) (.seq qb07 qbvf) .skip)))) qbv4)))
def k0h:IC:=(.seq qbxu (.block 0 (.loop qbzn)))
@[go_sem] def s0h:List (RV×Co):=[]
theorem c0h:cFun Tryz.prog 109 = some (32,k0h,s0h):=by kernel_rfl

def qbxs:IC:=zr [zv 4 (.mov (.c .nils))]
def qbxj:IC:=zr [zm 8 0,zi 9 (.mks 1 .nils 24 (.t 8) (.t 8)),zm 5 9]
def qb24:IC:=zr [zm 10 1,zv 11 (.len false (.t 10)),zv 12 (.mov (zc 0))]
def qb08:IC:=zr [zv 13 (.bin .lss .no (.t 12) (.t 11))]
def qbwf:IC:=zr [zv 14 (.iad 2 (.t 10) (.t 12)),zv 15 (zl 2 14),zi 7 (.alo [(.int .i64 0),(.int .i64 0)]),zn (.st 2 .id (.t 7) (.t 15))]
def qbz1:IC:=.drw [zp (zm 16 5),zp (zv 17 (zd 7 0)),zp (zv 18 (zg 1 17)),zp (zm 19 5),zp (zv 20 (zd 7 0)),zp (zv 21 (zg 1 20)),zp (zv 22 (.iad 1 (.t 19) (.t 21))),zp (zv 23 (zg 1 22)),zp (zv 24 (zd 7 1)),zp (zv 25 (zg 1 24)),(zv 26 (.bsl 1 [zI 25]),[]),(zi 27 (.app 1 (.int .i64 0) 8 (.sl 1) (.t 23) (.t 26)),[2]),zp (zv 28 (.iad 1 (.t 16) (.t 18))),(zn (.st 1 (.sl 1) (.t 28) (.t 27)),[])]
def qbxt:IC:=zr [zv 29 (.bin .add .no (.t 12) (zc 1)),zm 12 29]
def qb2e:IC:=(.seq qb08 (.seq (.cond (.t 13) .skip (.exit 0)) (.seq (.block 1 (.seq qbwf qbz1)) qbxt)))
def qbyc:IC:=zr [zm 30 5,zm 4 30]
def k0i:IC:=(.seq qbxs (.seq qbxj (.seq (.seq qb24 (.block 0 (.loop qb2e))) (.seq qbyc .ret))))
@[go_sem] def s0i:List (RV×Co):=[(.t 4,(.sl 1))]
theorem c0i:cFun Tryz.prog 110 = some (31,k0i,s0i):=by kernel_rfl

def qbxk:IC:=zr [zv 6 (.mov (zc 0)),zv 7 zf]
def qbzv:IC:=zr [zm 10 0,zv 11 (.len false (.t 10)),zv 12 (.mov (zc 0))]
def qb2t:IC:=zr [zv 13 (.bin .lss .no (.t 12) (.t 11))]
def qbvo:IC:=zr [zm 14 12,zv 15 (.iad 4 (.t 10) (.t 12)),zv 16 (zl 4 15),zi 9 (.alo [(.str []),(.str []),(.int .i64 0),.nils]),zm 8 14,zn (.st 4 (.agg [.id,.id,.id,(.sl 4)]) (.t 9) (.t 16))]
def qbz7:IC:=zr [zv 17 (zd 9 0),zv 18 (zg 1 17),zm 19 1,zv 20 (zq (.t 18) (.t 19)),zm 21 20,zw 21 true 22 (zd 9 1),zw 21 true 23 (zg 1 22),zw 21 true 24 (zo 2),zw 21 true 25 (zq (.t 23) (.t 24)),zv 26 (.pick (.t 21) (.t 25) (.c (.bool false)))]
def qbxy:IC:=zr [zm 27 8,zm 6 27,zv 7 (.mov (.c (.bool true)))]
def qb2z:IC:=zr [zv 28 (.bin .add .no (.t 12) (zc 1)),zm 12 28]
def qbxc:IC:=(.seq qb2t (.seq (.cond (.t 13) .skip (.exit 0)) (.seq (.block 1 (.seq qbvo (.seq qbz7 (.cond (.t 26) (.seq qbxy .ret) .skip)))) qb2z)))
def qbus:IC:=zr [zv 6 (.mov (zc 0)),zv 7 zf]
def k0r:IC:=(.seq qbxk (.seq (.seq qbzv (.block 0 (.loop qbxc))) (.seq qbus .ret)))
@[go_sem] def s0r:List (RV×Co):=[(.t 6,.id),(.t 7,.id)]
theorem c0r:cFun Tryz.prog 111 = some (29,k0r,s0r):=by kernel_rfl

def qbx1:IC:=zr [zi 5 (.box (.t 2)),zv 6 (.mov (zc 0))]
def qbwy:IC:=zr [zm 9 0,zv 10 (.bin .eql .ptr (.t 9) (.c .nilp)),zm 11 10,zw 11 false 12 (zl 3 5),zj 11 false 13 (zk 68 [((.t 12),(.agg [.id,.id,(.sl 3)]))]),zw 11 false 14 (.un .not (.t 13)),zv 15 (.pick (.t 11) (.c (.bool true)) (.t 14))]
def qbyg:IC:=zr [zv 6 (.mov (zc 1))]
def qbwx:IC:=zr [zm 17 0,zm 18 1,zi 19 (zk 133 [zI 17,zI 18]),zm 16 19,zv 20 (zx 16 0),zv 21 (zx 16 1),zm 7 20,zm 8 21]
def qbyh:IC:=zr [zm 22 8]
def qbvx:IC:=zr [zv 6 (.mov (zc 6))]
def qb0o:IC:=.drw [zp (zm 23 0),zp (zm 24 0),zp (zv 25 (.nck (.t 24))),zp (zv 26 (zd 25 0)),zp (zv 27 (zg 1 26)),zp (zm 28 7),zp (zm 29 1),zp (zv 30 (zl 3 5)),(zi 31 (zk 135 [((.t 30),(.agg [.id,.id,(.sl 3)]))]),[4]),(zv 32 (.bld [(.int .i64 0),(.str []),(.int .i64 0),.nils] [(0,1,(.t 29)),(1,3,(.t 31))]),[]),(zv 33 (.bsl 4 [((.t 32),(.agg [.id,.id,.id,(.sl 3)]))]),[]),(zi 34 (zk 134 [((.t 27),(.sl 4)),zI 28,((.t 33),(.sl 4))]),[]),zp (zv 35 (.nck (.t 23))),zp (zv 36 (zd 35 0)),(zn (.st 1 (.sl 4) (.t 36) (.t 34)),[])]
def qbuj:IC:=zr [zv 6 (.mov (zc 0))]
def k0x:IC:=(.seq qbx1 (.seq (.seq qbwy (.cond (.t 15) (.seq qbyg .ret) .skip)) (.seq qbwx (.seq (.seq qbyh (.cond (.t 22) (.seq qbvx .ret) .skip)) (.seq qb0o (.seq qbuj .ret))))))
@[go_sem] def s0x:List (RV×Co):=[(.t 6,.id)]
theorem c0x:cFun Tryz.prog 112 = some (37,k0x,s0x):=by kernel_rfl

def qbzi:IC:=zr [zv 4 (.mov (.c .nils)),zv 5 (.mov (zc 0))]
def qb1x:IC:=zr [zv 6 (.mov (.c .nils))]
def qb1j:IC:=zr [zm 11 1,zv 12 (.len false (.t 11)),zv 13 (.mov (zc 0))]
def qbw0:IC:=zr [zv 14 (.bin .lss .no (.t 13) (.t 12))]
def qb12:IC:=zr [zv 15 (.iad 4 (.t 11) (.t 13)),zv 16 (zl 4 15),zi 8 (.alo [(.str []),(.str []),(.int .i64 0),.nils]),zn (.st 4 (.agg [.id,.id,.id,(.sl 3)]) (.t 8) (.t 16))]
def qbuy:IC:=zr [zm 18 0,zv 19 (zd 8 1),zv 20 (zl 3 19),zi 21 (zk 87 [zI 18,((.t 20),(.agg [.id,.id,(.sl 3)]))]),zm 17 21,zv 22 (zx 17 0),zv 23 (zx 17 1),zi 9 (.alo [(.str []),(.int .i64 0),.nils]),zn (.st 3 (.agg [.id,.id,(.sl 3)]) (.t 9) (.t 22)),zm 10 23]
def qb1f:IC:=zr [zm 24 10,zv 25 (.bin .neq .no (.t 24) (zc 0))]
def qb1l:IC:=zr [zm 26 10,zv 4 (.mov (.c .nils)),zm 5 26]
def qbxb:IC:=zr [zm 27 6,zv 28 (zd 8 0),zv 29 (zg 1 28),zv 30 (zl 3 9),zv 31 (.bld [(.str []),(.str []),(.int .i64 0),.nils] [(0,1,(.t 29)),(1,3,(.t 30))]),zv 32 (.bsl 4 [((.t 31),(.agg [.id,.id,.id,(.sl 3)]))]),zi 33 (.app 4 (.agg [(.str []),(.str []),(.int .i64 0),.nils]) 64 (.sl 4) (.t 27) (.t 32)),zm 6 33]
def qbd2:IC:=zr [zv 34 (.bin .add .no (.t 13) (zc 1)),zm 13 34]
def qb2l:IC:=(.seq qbw0 (.seq (.cond (.t 14) .skip (.exit 0)) (.seq (.block 1 (.seq qb12 (.seq qbuy (.seq (.seq qb1f (.cond (.t 25) (.seq qb1l .ret) .skip)) qbxb)))) qbd2)))
def qbeg:IC:=zr [zm 35 6,zm 4 35,zv 5 (.mov (zc 0))]
def k0t:IC:=(.seq qbzi (.seq qb1x (.seq (.seq qb1j (.block 0 (.loop qb2l))) (.seq qbeg .ret))))
@[go_sem] def s0t:List (RV×Co):=[(.t 4,(.sl 4)),(.t 5,.id)]
theorem c0t:cFun Tryz.prog 113 = some (36,k0t,s0t):=by kernel_rfl

def qbuu:IC:=zr [zi 4 (.box (.t 1)),zi 6 (.alo [(.str []),(.int .i64 0),.nils])]
def qbxv:IC:=zr [zv 11 (zd 4 0),zv 12 (zg 1 11),zv 13 (zq (.t 12) (.c (.str [])))]
def qb0e:IC:=.drw [zp (zm 15 0),zp (zv 16 (.nck (.t 15))),zp (zv 17 (zd 16 0)),zp (zv 18 (zg 1 17)),zp (zv 19 (zd 4 1)),zp (zv 20 (zg 1 19)),(zi 21 (zk 136 [zI 18,zI 20]),[]),zp (zm 14 21),zp (zv 22 (zx 14 0)),zp (zv 23 (zx 14 1)),(zi 7 (.alo [(.str []),(.int .i64 0),.nils]),[3,5,6]),(zn (.st 3 (.agg [.id,.id,(.sl 3)]) (.t 7) (.t 22)),[]),zp (zm 8 23)]
def qbvp:IC:=zr [zm 24 8]
def qb0m:IC:=.drw [zp (zm 25 0),zp (zv 26 (.nck (.t 25))),zp (zv 27 (zd 26 1)),zp (zv 28 (zg 1 27)),zp (zv 29 (zl 3 7)),(zi 30 (zk 137 [((.t 29),(.agg [.id,.id,(.sl 3)]))]),[3]),zp (zv 31 (.bin .sub .no (.t 28) (.t 30))),zp (zv 32 (.nck (.t 25))),zp (zv 33 (zd 32 1)),(zn (.st 1 .id (.t 33) (.t 31)),[])]
def qbwr:IC:=zr [zm 34 2,zv 35 (zl 3 7),zi 36 (zk 138 [((.t 35),(.agg [.id,.id,(.sl 3)]))]),zv 37 (.bin .add .no (.t 34) (.t 36)),zv 38 (.bin .gtr .no (.t 37) (zc 101))]
def qb0g:IC:=zr [zm 39 0,zv 40 (.nck (.t 39)),zv 41 (zd 40 1),zn (.st 1 .id (.t 41) (zc (-1)))]
def qb2a:IC:=zr [zv 42 (zl 3 7),zi 43 (zk 135 [((.t 42),(.agg [.id,.id,(.sl 3)]))]),zn (.st 3 (.agg [.id,.id,(.sl 3)]) (.t 6) (.t 43))]
def qby1:IC:=zr [zm 44 0,zv 45 (.nck (.t 44)),zv 46 (zd 45 1),zv 47 (zg 1 46),zv 48 (.bin .sub .no (.t 47) (zc 1)),zv 49 (.nck (.t 44)),zv 50 (zd 49 1),zn (.st 1 .id (.t 50) (.t 48))]
def qbxd:IC:=zr [zv 51 (zd 4 2),zv 52 (zg 1 51),zv 53 (.len false (.t 52)),zi 54 (.mks 3 (.agg [(.str []),(.int .i64 0),.nils]) 48 (.t 53) (.t 53)),zm 9 54]
def qbh0:IC:=zr [zv 55 (zd 4 2),zv 56 (zg 1 55),zv 57 (.len false (.t 56)),zv 58 (.mov (zc 0))]
def qbs0:IC:=zr [zv 59 (.bin .lss .no (.t 58) (.t 57))]
def qblf:IC:=zr [zm 60 58,zm 10 60]
def qbhr:IC:=zr [zm 61 0,zv 62 (.nck (.t 61)),zv 63 (zd 62 1),zv 64 (zg 1 63),zv 65 (.bin .lss .no (.t 64) (zc 0))]
def qbsf:IC:=zr [zv 66 (zl 3 4),zn (.st 3 (.agg [.id,.id,(.sl 3)]) (.t 6) (.t 66))]
def qbij:IC:=zr [zm 67 9,zm 68 10,zm 69 0,zv 70 (zd 4 2),zv 71 (zg 1 70),zm 72 10,zv 73 (.iad 3 (.t 71) (.t 72)),zv 74 (zl 3 73),zm 75 2,zv 76 (.bin .add .no (.t 75) (zc 1)),zi 77 (zk 114 [zI 69,((.t 74),(.agg [.id,.id,(.sl 3)])),zI 76]),zv 78 (.iad 3 (.t 67) (.t 68)),zn (.st 3 (.agg [.id,.id,(.sl 3)]) (.t 78) (.t 77))]
def qbeu:IC:=zr [zv 79 (.bin .add .no (.t 58) (zc 1)),zm 58 79]
def qbnm:IC:=(.seq qbs0 (.seq (.cond (.t 59) .skip (.exit 0)) (.seq (.block 1 (.seq qblf (.seq (.seq qbhr (.cond (.t 65) (.seq qbsf .ret) .skip)) qbij))) qbeu)))
def qbfp:IC:=zr [zm 80 9,zv 81 (zd 4 2),zn (.st 1 (.sl 3) (.t 81) (.t 80))]
def qbpm:IC:=zr [zv 82 (zl 3 4),zn (.st 3 (.agg [.id,.id,(.sl 3)]) (.t 6) (.t 82))]
def k0w:IC:=(.seq qbuu (.seq (.seq qbxv (.cond (.t 13) (.seq qb0e (.seq qbvp (.cond (.t 24) (.seq qb0m (.seq (.seq qbwr (.cond (.t 38) qb0g .skip)) (.seq qb2a .ret))) .skip))) .skip)) (.seq qby1 (.seq qbxd (.seq (.seq qbh0 (.block 0 (.loop qbnm))) (.seq qbfp (.seq qbpm .ret)))))))
@[go_sem] def s0w:List (RV×Co):=[(.c true 3 6,(.agg [.id,.id,(.sl 3)]))]
theorem c0w:cFun Tryz.prog 114 = some (83,k0w,s0w):=by kernel_rfl

def qbed:IC:=zr [zv 2 (.mov (.c (.int .u64 0)))]
def qbhy:IC:=zr [zm 3 0,zv 4 (.bin .lss .no (.t 3) (zc 0))]
def qbl7:IC:=zr [zm 5 0,zv 6 (.cvi .u64 (.t 5)),zv 7 (.un .neg (.t 6)),zm 2 7]
def qbgo:IC:=zr [zm 8 0,zv 9 (.cvi .u64 (.t 8)),zm 2 9]
def k0cq:IC:=(.seq qbed (.seq (.seq qbhy (.cond (.t 4) (.seq qbl7 .ret) .skip)) (.seq qbgo .ret)))
@[go_sem] def s0cq:List (RV×Co):=[(.t 2,.id)]
theorem c0cq:cFun Tryz.prog 115 = some (10,k0cq,s0cq):=by kernel_rfl

def qbtv:IC:=zr [zv 2 zf]
def qbtz:IC:=zr [zm 3 0,zv 4 (.bin .geq .no (.t 3) (.c (.int .u8 97))),zm 5 4,zw 5 true 6 (zo 0),zw 5 true 7 (.bin .leq .no (.t 6) (.c (.int .u8 122))),zv 8 (.pick (.t 5) (.t 7) (.c (.bool false))),zm 9 8,zw 9 false 10 (zo 0),zw 9 false 11 (zq (.t 10) (.c (.int .u8 95))),zv 12 (.pick (.t 9) (.c (.bool true)) (.t 11)),zm 2 12]
def k0ch:IC:=(.seq qbtv (.seq qbtz .ret))
@[go_sem] def s0ch:List (RV×Co):=[(.t 2,.id)]
theorem c0ch:cFun Tryz.prog 116 = some (13,k0ch,s0ch):=by kernel_rfl

def qbf6:IC:=zr [zv 2 zf]
def qbg6:IC:=zr [zm 3 0,zv 4 (.bin .geq .no (.t 3) (.c (.int .u8 48))),zm 5 4,zw 5 true 6 (zo 0),zw 5 true 7 (.bin .leq .no (.t 6) (.c (.int .u8 57))),zv 8 (.pick (.t 5) (.t 7) (.c (.bool false))),zm 2 8]
def k0ck:IC:=(.seq qbf6 (.seq qbg6 .ret))
@[go_sem] def s0ck:List (RV×Co):=[(.t 2,.id)]
theorem c0ck:cFun Tryz.prog 117 = some (9,k0ck,s0ck):=by kernel_rfl

def qbrv:IC:=zr [zv 2 (.mov (zc 0))]
def qbdv:IC:=zr [zm 6 0,zv 7 (zq (.t 6) (.c (.str []))),zm 8 7,zw 8 false 9 (zo 0),zw 8 false 10 (.idx (.t 9) (zc 0)),zw 8 false 11 (.bin .lss .no (.t 10) (.c (.int .u8 97))),zv 12 (.pick (.t 8) (.c (.bool true)) (.t 11)),zm 13 12,zw 13 false 14 (zo 0),zw 13 false 15 (.idx (.t 14) (zc 0)),zw 13 false 16 (.bin .gtr .no (.t 15) (.c (.int .u8 122))),zv 17 (.pick (.t 13) (.c (.bool true)) (.t 16))]
def qbkv:IC:=zr [zv 2 (.mov (zc (-1)))]
def qboz:IC:=zr [zm 18 0,zv 19 (.idx (.t 18) (zc 0)),zv 20 (.bin .sub .no (.t 19) (.c (.int .u8 97))),zv 21 (.cvi .i64 (.t 20)),zm 3 21]
def qbel:IC:=zr [zm 22 0,zv 23 (.len true (.t 22)),zv 24 (.bin .gtr .no (.t 23) (zc 1))]
def qbmy:IC:=zr [zm 26 0,zv 27 (.sls (.t 26) (some (zc 1)) none),zi 28 (zk 126 [zI 27]),zm 25 28,zv 29 (zx 25 0),zv 30 (zx 25 1),zm 4 29,zm 5 30]
def qbea:IC:=zr [zm 31 5,zv 32 (.bin .neq .no (.t 31) (zc 0)),zm 33 32,zw 33 false 34 (zo 4),zw 33 false 35 (.bin .gtr .no (.t 34) (zc 177372539170284150)),zv 36 (.pick (.t 33) (.c (.bool true)) (.t 35))]
def qbl6:IC:=zr [zv 2 (.mov (zc (-1)))]
def qbgd:IC:=zr [zm 37 3,zm 38 4,zv 39 (.bin .mul .no (zc 26) (.t 38)),zv 40 (.bin .add .no (.t 37) (.t 39)),zm 3 40]
def qbc9:IC:=zr [zm 41 3,zv 42 (.bin .gtr .no (.t 41) (zc 4611686018427387904)),zm 43 42,zw 43 false 44 (zo 3),zj 43 false 45 (zk 128 [zI 44]),zw 43 false 46 (zo 0),zw 43 false 47 (.bin .neq .no (.t 45) (.t 46)),zv 48 (.pick (.t 43) (.c (.bool true)) (.t 47))]
def q6v:IC:=zr [zv 2 (.mov (zc (-1)))]
def q7k:IC:=zr [zm 49 3,zm 2 49]
def k0dy:IC:=(.seq qbrv (.seq (.seq qbdv (.cond (.t 17) (.seq qbkv .ret) .skip)) (.seq qboz (.seq (.seq qbel (.cond (.t 24) (.seq qbmy (.seq (.seq qbea (.cond (.t 36) (.seq qbl6 .ret) .skip)) qbgd)) .skip)) (.seq (.seq qbc9 (.cond (.t 48) (.seq q6v .ret) .skip)) (.seq q7k .ret))))))
@[go_sem] def s0dy:List (RV×Co):=[(.t 2,.id)]
theorem c0dy:cFun Tryz.prog 125 = some (50,k0dy,s0dy):=by kernel_rfl

def qbl5:IC:=zr [zv 2 (.mov (zc 0)),zv 3 (.mov (zc 0))]
def qbnn:IC:=zr [zm 8 0,zv 9 (.len true (.t 8)),zv 10 (.mov (zc 0))]
def qbjb:IC:=zr [zv 11 (.bin .lss .no (.t 10) (.t 9))]
def qbfq:IC:=zr [zm 12 10,zm 4 12]
def qblw:IC:=zr [zm 13 0,zm 14 4,zv 15 (.idx (.t 13) (.t 14)),zv 16 (.bin .lss .no (.t 15) (.c (.int .u8 48))),zm 17 16,zw 17 false 18 (zo 0),zw 17 false 19 (zo 4),zw 17 false 20 (.idx (.t 18) (.t 19)),zw 17 false 21 (.bin .gtr .no (.t 20) (.c (.int .u8 57))),zv 22 (.pick (.t 17) (.c (.bool true)) (.t 21))]
def qbns:IC:=zr [zv 2 (.mov (zc 0)),zv 3 (.mov (zc 5))]
def qbne:IC:=zr [zv 23 (.bin .add .no (.t 10) (zc 1)),zm 10 23]
def qbjt:IC:=(.seq qbjb (.seq (.cond (.t 11) .skip (.exit 0)) (.seq (.block 1 (.seq qbfq (.seq qblw (.cond (.t 22) (.seq qbns .ret) .skip)))) qbne)))
def qbof:IC:=zr [zm 24 0,zv 25 (zq (.t 24) (.c (.str [])))]
def q6c:IC:=zr [zv 2 (.mov (zc 0)),zv 3 (.mov (zc 5))]
def q7g:IC:=zr [zv 5 (.mov (zc 0)),zv 6 (.mov (zc 0))]
def q8c:IC:=zr [zm 26 0,zm 27 6,zv 28 (.idx (.t 26) (.t 27)),zv 29 (.bin .sub .no (.t 28) (.c (.int .u8 48))),zv 30 (.cvi .i64 (.t 29)),zm 7 30]
def q8b:IC:=zr [zm 31 5,zm 32 7,zv 33 (.bin .sub .no (zc 9223372036854775807) (.t 32)),zv 34 (.bin .quo .no (.t 33) (zc 10)),zv 35 (.bin .gtr .no (.t 31) (.t 34))]
def q72:IC:=zr [zv 2 (.mov (zc 0)),zv 3 (.mov (zc 4))]
def q7q:IC:=zr [zm 36 5,zv 37 (.bin .mul .no (zc 10) (.t 36)),zm 38 7,zv 39 (.bin .add .no (.t 37) (.t 38)),zm 5 39]
def qba3:IC:=zr [zm 40 6,zv 41 (.bin .add .no (.t 40) (zc 1)),zm 6 41]
def q89:IC:=zr [zm 42 6,zm 43 0,zv 44 (.len true (.t 43)),zv 45 (.bin .lss .no (.t 42) (.t 44))]
def qbbe:IC:=zr [zm 46 5,zm 2 46,zv 3 (.mov (zc 0))]
def k0cf:IC:=(.seq qbl5 (.scope (.seq (.seq qbnn (.block 0 (.loop qbjt))) (.seq (.seq qbof (.cond (.t 25) (.seq q6c .ret) .skip)) (.seq q7g (.seq (.label 0) (.seq q8c (.seq (.seq q8b (.cond (.t 35) (.seq q72 .ret) .skip)) (.seq q7q (.seq (.seq qba3 (.seq q89 (.cond (.t 45) (.goto 0) .skip))) (.seq qbbe .ret)))))))))))
@[go_sem] def s0cf:List (RV×Co):=[(.t 2,.id),(.t 3,.id)]
theorem c0cf:cFun Tryz.prog 126 = some (47,k0cf,s0cf):=by kernel_rfl

def qbho:IC:=zr [zv 2 zf]
def qbrm:IC:=zr [zm 5 0,zi 6 (zk 65 [zI 5,((.c (.str [33])),.id)]),zv 7 (.un .not (.t 6))]
def qblh:IC:=zr [zv 2 zf]
def qbid:IC:=zr [zm 9 0,zv 10 (.sls (.t 9) (some (zc 1)) none),zi 11 (zk 126 [zI 10]),zm 8 11,zv 12 (zx 8 0),zv 13 (zx 8 1),zm 3 12,zm 4 13]
def qbno:IC:=.drw [zp (zm 14 4),zp (zv 15 (zq (.t 14) (zc 0))),zp (zm 16 15),zp (zw 16 true 17 (zo 3)),(zj 16 true 18 (zk 44 [zI 17]),[]),zp (zw 16 true 19 (zo 0)),zp (zw 16 true 20 (.sls (.t 19) (some (zc 1)) none)),zp (zw 16 true 21 (zq (.t 18) (.t 20))),zp (zv 22 (.pick (.t 16) (.t 21) (.c (.bool false)))),zp (zm 2 22)]
def k0by:IC:=(.seq qbho (.seq (.seq qbrm (.cond (.t 7) (.seq qblh .ret) .skip)) (.seq qbid (.seq qbno .ret))))
@[go_sem] def s0by:List (RV×Co):=[(.t 2,.id)]
theorem c0by:cFun Tryz.prog 127 = some (23,k0by,s0by):=by kernel_rfl

def qbpe:IC:=zr [zv 2 (.mov (.c (.str [])))]
def qbhf:IC:=zr [zm 4 0,zv 5 (.bin .lss .no (.t 4) (zc 0))]
def qbds:IC:=zr [zv 2 (.mov (.c (.str [])))]
def qbjp:IC:=zr [zm 6 0,zv 7 (.bin .rem .no (.t 6) (zc 26)),zv 8 (.bin .add .no (zc 97) (.t 7)),zv 9 (.cvi .u8 (.t 8)),zv 10 (.bsl 1 [zI 9]),zv 11 (.cbs (.t 10)),zm 3 11]
def qbfx:IC:=zr [zm 12 0,zv 13 (.bin .lss .no (.t 12) (zc 26))]
def qbrf:IC:=zr [zm 14 3,zm 2 14]
def qbmd:IC:=zr [zm 15 3,zm 16 0,zv 17 (.bin .quo .no (.t 16) (zc 26)),zi 18 (zk 44 [zI 17]),zv 19 (.bin .add .no (.t 15) (.t 18)),zm 2 19]
def k0ct:IC:=(.seq qbpe (.seq (.seq qbhf (.cond (.t 5) (.seq qbds .ret) .skip)) (.seq qbjp (.seq (.seq qbfx (.cond (.t 13) (.seq qbrf .ret) .skip)) (.seq qbmd .ret)))))
@[go_sem] def s0ct:List (RV×Co):=[(.t 2,.id)]
theorem c0ct:cFun Tryz.prog 128 = some (20,k0ct,s0ct):=by kernel_rfl

def qbfy:IC:=zr [zv 2 zf]
def qbmt:IC:=zr [zm 3 0,zv 4 (.bin .geq .no (.t 3) (.c (.int .u8 97))),zm 5 4,zw 5 true 6 (zo 0),zw 5 true 7 (.bin .leq .no (.t 6) (.c (.int .u8 122))),zv 8 (.pick (.t 5) (.t 7) (.c (.bool false))),zm 9 8,zw 9 false 10 (zo 0),zw 9 false 11 (zq (.t 10) (.c (.int .u8 95))),zv 12 (.pick (.t 9) (.c (.bool true)) (.t 11)),zm 2 12]
def k0cg:IC:=(.seq qbfy (.seq qbmt .ret))
@[go_sem] def s0cg:List (RV×Co):=[(.t 2,.id)]
theorem c0cg:cFun Tryz.prog 131 = some (13,k0cg,s0cg):=by kernel_rfl

def qbyq:IC:=zr [zv 4 (.mov (zc 0))]
def qby2:IC:=zr [zm 6 0,zv 7 (.len false (.t 6)),zv 8 (.mov (zc 0))]
def qby5:IC:=zr [zv 9 (.bin .lss .no (.t 8) (.t 7))]
def qb0b:IC:=zr [zm 10 8,zm 5 10]
def qbx2:IC:=zr [zm 11 1,zm 12 0,zm 13 5,zv 14 (.iad 1 (.t 12) (.t 13)),zv 15 (zg 1 14),zv 16 (zq (.t 11) (.t 15))]
def qbxl:IC:=zr [zm 17 5,zm 4 17]
def qbwz:IC:=zr [zv 18 (.bin .add .no (.t 8) (zc 1)),zm 8 18]
def qbwt:IC:=(.seq qby5 (.seq (.cond (.t 9) .skip (.exit 0)) (.seq (.block 1 (.seq qb0b (.seq qbx2 (.cond (.t 16) (.seq qbxl .ret) .skip)))) qbwz)))
def qbyf:IC:=zr [zv 4 (.mov (zc (-1)))]
def k0l:IC:=(.seq qbyq (.seq (.seq qby2 (.block 0 (.loop qbwt))) (.seq qbyf .ret)))
@[go_sem] def s0l:List (RV×Co):=[(.t 4,.id)]
theorem c0l:cFun Tryz.prog 132 = some (19,k0l,s0l):=by kernel_rfl

def qblg:IC:=zr [zv 4 (.mov (zc 0)),zv 5 zf]
def qbec:IC:=zr [zm 6 0,zv 7 (.nck (.t 6)),zv 8 (zd 7 0),zv 9 (zg 1 8),zm 10 1,zi 11 (zk 143 [((.t 9),(.sl 4)),zI 10,((.c (.fn 144 [] [])),.id)]),zv 12 (zx 11 0),zv 13 (zx 11 1),zm 4 12,zm 5 13]
def k0ba:IC:=(.seq qblg (.seq qbec .ret))
@[go_sem] def s0ba:List (RV×Co):=[(.t 4,.id),(.t 5,.id)]
theorem c0ba:cFun Tryz.prog 133 = some (14,k0ba,s0ba):=by kernel_rfl

def qbda:IC:=zr [zi 1 (.box (.t 0)),zi 2 (.alo [(.str []),(.int .i64 0),.nils])]
def qbgj:IC:=zr [zv 6 (zd 1 2),zv 7 (zg 1 6),zv 8 (.len false (.t 7)),zi 9 (.mks 3 (.agg [(.str []),(.int .i64 0),.nils]) 48 (.t 8) (.t 8)),zm 3 9]
def qbsu:IC:=zr [zv 10 (zd 1 2),zv 11 (zg 1 10),zv 12 (.len false (.t 11)),zv 13 (.mov (zc 0))]
def qbmx:IC:=zr [zv 14 (.bin .lss .no (.t 13) (.t 12))]
def qbj8:IC:=zr [zm 15 13,zv 16 (.iad 3 (.t 11) (.t 13)),zv 17 (zl 3 16),zi 5 (.alo [(.str []),(.int .i64 0),.nils]),zm 4 15,zn (.st 3 (.agg [.id,.id,(.sl 3)]) (.t 5) (.t 17))]
def qbp0:IC:=zr [zm 18 3,zm 19 4,zv 20 (zl 3 5),zi 21 (zk 135 [((.t 20),(.agg [.id,.id,(.sl 3)]))]),zv 22 (.iad 3 (.t 18) (.t 19)),zn (.st 3 (.agg [.id,.id,(.sl 3)]) (.t 22) (.t 21))]
def qbh3:IC:=zr [zv 23 (.bin .add .no (.t 13) (zc 1)),zm 13 23]
def qbfn:IC:=(.seq qbmx (.seq (.cond (.t 14) .skip (.exit 0)) (.seq (.block 1 (.seq qbj8 qbp0)) qbh3)))
def qbj5:IC:=zr [zm 24 3,zv 25 (zd 1 2),zn (.st 1 (.sl 3) (.t 25) (.t 24))]
def qba2:IC:=zr [zv 26 (zl 3 1),zn (.st 3 (.agg [.id,.id,(.sl 3)]) (.t 2) (.t 26))]
def k0bc:IC:=(.seq qbda (.seq qbgj (.seq (.seq qbsu (.block 0 (.loop qbfn))) (.seq qbj5 (.seq qba2 .ret)))))
@[go_sem] def s0bc:List (RV×Co):=[(.c true 3 2,(.agg [.id,.id,(.sl 3)]))]
theorem c0bc:cFun Tryz.prog 135 = some (27,k0bc,s0bc):=by kernel_rfl

def qbu3:IC:=zr [zi 4 (.alo [(.str []),(.int .i64 0),.nils]),zv 5 zf]
def qbxq:IC:=zr [zm 8 0,zv 9 (.bin .eql .ptr (.t 8) (.c .nilp))]
def qbxe:IC:=zr [zv 10 (.bld [(.str []),(.int .i64 0),.nils] []),zn (.st 3 (.agg [.id,.id,(.sl 3)]) (.t 4) (.t 10)),zv 5 zf]
def qb09:IC:=zr [zm 12 0,zm 13 1,zi 14 (zk 133 [zI 12,zI 13]),zm 11 14,zv 15 (zx 11 0),zv 16 (zx 11 1),zm 6 15,zm 7 16]
def qbv0:IC:=zr [zm 17 7,zv 18 (.un .not (.t 17))]
def qbug:IC:=zr [zv 19 (.bld [(.str []),(.int .i64 0),.nils] []),zn (.st 3 (.agg [.id,.id,(.sl 3)]) (.t 4) (.t 19)),zv 5 zf]
def qbut:IC:=zr [zm 20 0,zv 21 (.nck (.t 20)),zv 22 (zd 21 0),zv 23 (zg 1 22),zm 24 6,zv 25 (.iad 4 (.t 23) (.t 24)),zv 26 (zd 25 1),zv 27 (zl 3 26),zn (.st 3 (.agg [.id,.id,(.sl 3)]) (.t 4) (.t 27)),zv 5 (.mov (.c (.bool true)))]
def k0y:IC:=(.seq qbu3 (.seq (.seq qbxq (.cond (.t 9) (.seq qbxe .ret) .skip)) (.seq qb09 (.seq (.seq qbv0 (.cond (.t 18) (.seq qbug .ret) .skip)) (.seq qbut .ret)))))
@[go_sem] def s0y:List (RV×Co):=[(.c true 3 4,(.agg [.id,.id,(.sl 3)])),(.t 5,.id)]
theorem c0y:cFun Tryz.prog 136 = some (28,k0y,s0y):=by kernel_rfl

def qbpw:IC:=zr [zi 1 (.box (.t 0)),zv 2 (.mov (zc 0))]
def qbjn:IC:=zr [zi 3 (.alo [(.int .i64 0)]),zn (.st 1 .id (.t 3) (zc 0))]
def qbem:IC:=zr [zv 4 (zl 3 1),zv 5 (.mfn 147 [] [(.t 3)]),zi 6 (zk 97 [((.t 4),(.agg [.id,.id,(.sl 3)])),((zc 1),.id),zI 5])]
def qbdq:IC:=zr [zv 7 (zg 1 3),zm 2 7]
def k0bl:IC:=(.seq qbpw (.seq qbjn (.seq qbem (.seq qbdq .ret))))
@[go_sem] def s0bl:List (RV×Co):=[(.t 2,.id)]
theorem c0bl:cFun Tryz.prog 137 = some (8,k0bl,s0bl):=by kernel_rfl

def qbqd:IC:=zr [zi 1 (.box (.t 0)),zv 2 (.mov (zc 0))]
def qbht:IC:=zr [zi 3 (.alo [(.int .i64 0)]),zn (.st 1 .id (.t 3) (zc 0))]
def qbqm:IC:=zr [zv 4 (zl 3 1),zv 5 (.mfn 148 [] [(.t 3)]),zi 6 (zk 97 [((.t 4),(.agg [.id,.id,(.sl 3)])),((zc 1),.id),zI 5])]
def qbha:IC:=zr [zv 7 (zg 1 3),zm 2 7]
def k0bm:IC:=(.seq qbqd (.seq qbht (.seq qbqm (.seq qbha .ret))))
@[go_sem] def s0bm:List (RV×Co):=[(.t 2,.id)]
theorem c0bm:cFun Tryz.prog 138 = some (8,k0bm,s0bm):=by kernel_rfl

def qbz5:IC:=zr [zv 6 (.mov (zc 0)),zv 7 zf]
def qbzq:IC:=zr [zm 12 0,zv 13 (.len false (.t 12)),zm 8 13]
def qby9:IC:=zr [zm 14 8,zv 9 (.mov (zc 0)),zm 10 14]
def qbvz:IC:=zr [zm 15 9,zm 16 10,zv 17 (.bin .lss .no (.t 15) (.t 16))]
def qbve:IC:=zr [zm 18 9,zm 19 10,zv 20 (.bin .add .no (.t 18) (.t 19)),zv 21 (.cvi .u64 (.t 20)),zv 22 (.bin .shr .no (.t 21) (.c (.int .u64 1))),zv 23 (.cvi .i64 (.t 22)),zm 11 23]
def qbzy:IC:=zr [zm 24 2,zm 25 0,zm 26 11,zv 27 (.iad 4 (.t 25) (.t 26)),zv 28 (zl 4 27),zm 29 1,zi 30 (.call (.t 24) [((.t 28),(.agg [.id,.id,.id,(.sl 3)])),zI 29]),zv 31 (.bin .lss .no (.t 30) (zc 0))]
def qbuw:IC:=zr [zm 32 11,zv 33 (.bin .add .no (.t 32) (zc 1)),zm 9 33]
def qbw4:IC:=zr [zm 34 11,zm 10 34]
def qbzl:IC:=(.seq (.seq qbvz (.cond (.t 17) .skip (.exit 0))) (.block 1 (.seq qbve (.seq qbzy (.cond (.t 31) qbuw qbw4)))))
def qbtw:IC:=zr [zm 35 9,zm 36 9,zm 37 8,zv 38 (.bin .lss .no (.t 36) (.t 37)),zm 39 38,zw 39 true 40 (zo 2),zw 39 true 41 (zo 0),zw 39 true 42 (zo 9),zw 39 true 43 (.iad 4 (.t 41) (.t 42)),zw 39 true 44 (zl 4 43),zw 39 true 45 (zo 1),zj 39 true 46 (.call (.t 40) [((.t 44),(.agg [.id,.id,.id,(.sl 3)])),zI 45]),zw 39 true 47 (zq (.t 46) (zc 0)),zv 48 (.pick (.t 39) (.t 47) (.c (.bool false))),zm 6 35,zm 7 48]
def k0z:IC:=(.seq qbz5 (.seq qbzq (.seq qby9 (.seq (.block 0 (.loop qbzl)) (.seq qbtw .ret)))))
@[go_sem] def s0z:List (RV×Co):=[(.t 6,.id),(.t 7,.id)]
theorem c0z:cFun Tryz.prog 143 = some (49,k0z,s0z):=by kernel_rfl

def qbsp:IC:=zr [zi 2 (.box (.t 0)),zv 4 (.mov (zc 0))]
def qbms:IC:=zr [zv 6 (zd 2 0),zv 7 (zg 1 6),zm 8 1,zv 9 (.bin .lss .no (.t 7) (.t 8)),zm 5 9]
def qbol:IC:=zr [zv 4 (.mov (zc (-1)))]
def qbr0:IC:=zr [zv 11 (zd 2 0),zv 12 (zg 1 11),zm 13 1,zv 14 (.bin .gtr .no (.t 12) (.t 13)),zm 10 14]
def qbh1:IC:=zr [zv 4 (.mov (zc 1))]
def qbcn:IC:=zr [zv 4 (.mov (zc 0))]
def k0bb:IC:=(.seq qbsp (.seq (.block 0 (.seq qbms (.cond (.t 5) (.seq qbol .ret) (.seq qbr0 (.cond (.t 10) (.seq qbh1 .ret) .skip))))) (.seq qbcn .ret)))
@[go_sem] def s0bb:List (RV×Co):=[(.t 4,.id)]
theorem c0bb:cFun Tryz.prog 144 = some (15,k0bb,s0bb):=by kernel_rfl

def qbkm:IC:=zr [zi 3 (.box (.t 0)),zv 5 zf]
def qbhn:IC:=zr [zv 6 (zg 1 2),zv 7 (.bin .add .no (.t 6) (zc 1)),zn (.st 1 .id (.t 2) (.t 7))]
def qbln:IC:=zr [zv 5 (.mov (.c (.bool true)))]
def k0bi:IC:=(.seq qbkm (.seq qbhn (.seq qbln .ret)))
@[go_sem] def s0bi:List (RV×Co):=[(.t 5,.id)]
theorem c0bi:cFun Tryz.prog 147 = some (8,k0bi,s0bi):=by kernel_rfl

def qbnb:IC:=zr [zi 3 (.box (.t 0)),zv 5 zf]
def qbeh:IC:=zr [zv 6 (zg 1 2),zm 7 1,zv 8 (.mm true (.t 6) (.t 7)),zn (.st 1 .id (.t 2) (.t 8))]
def qbcp:IC:=zr [zv 5 (.mov (.c (.bool true)))]
def k0bj:IC:=(.seq qbnb (.seq qbeh (.seq qbcp .ret)))
@[go_sem] def s0bj:List (RV×Co):=[(.t 5,.id)]
theorem c0bj:cFun Tryz.prog 148 = some (9,k0bj,s0bj):=by kernel_rfl

end Go.Proofs.YtgglaabljlhliaaGreat
