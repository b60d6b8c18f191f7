/- A text of this proof. -/
import Derived.Test.YtfjbmjplnmaclaaJah
import Derived.Test.YtfjbmjplnmaclaaProg
set_option linter.unusedVariables false
set_option linter.unusedSimpArgs false
/- The compiled code of the functions. -/
namespace Go.Proofs.Ytfjbmjplnmaclaa
open Go Go.V
@[reducible] def zm (d s:Nat):GI:=⟨none,some d,.v (.mov (.t s))⟩
@[reducible] def zv (d:Nat) (x:IV):GI:=⟨none,some d,.v x⟩
@[reducible] def zi (d:Nat) (i:I):GI:=⟨none,some d,i⟩
@[reducible] def zn (i:I):GI:=⟨none,none,i⟩
@[reducible] def zw (j:Nat) (b:Bool) (d:Nat) (x:IV):GI:=⟨some (j,b),some d,.v x⟩
@[reducible] def zp (g:GI):GI×List Nat:=(g,[])
@[reducible] def zN:Co:=.agg [.id,.id,.id,.id,(.sl 5)]
@[reducible] def zC:Co:=.agg [(.sl 4),.id,.id,.id,.id,.id,.id,.id]
@[reducible] def zaN:I:=.alo [(.int .i64 0),(.int .i64 0),(.int .i64 0),(.str []),.nils]
@[reducible] def zaC:I:=.alo [.nils,(.int .i64 0),(.int .i64 0),(.int .i64 0),(.str []),(.int .i64 0),(.int .i64 0),(.int .i64 0)]
@[reducible] def zaT:I:=.alo [(.int .i64 0),(.int .i64 0),(.int .i64 0),(.str [])]
@[reducible] def zZ:AV:=.agg [(.int .i64 0),(.int .i64 0),(.int .i64 0),(.str []),.nils]
@[reducible] def zc (n:Int):Opd:=.c (.int .i64 n)
@[reducible] def zf:IV:=.mov (.c (.bool false))
@[reducible] def zr (l:List GI):IC:=.reg false l
@[reducible] def zk (f:FuncId) (l:List (Opd×Co)):I:=.call (.c (.fn f [] [])) l
@[reducible] def zA (n:Nat):Opd×Co:=(.t n,zN)
@[reducible] def zI (n:Nat):Opd×Co:=(.t n,.id)
@[reducible] def zx (n k:Nat):IV:=.ext (.t n) k
@[reducible] def zl (n k:Nat):IV:=.ld true n (.t k)
@[reducible] def zg (n k:Nat):IV:=.ld false n (.t k)
@[reducible] def zd (n k:Nat):IV:=.fad (.t n) k
@[reducible] def zq (a b:Opd):IV:=.bin .eql .no a b
@[reducible] def zo (n:Nat):IV:=.mov (.t n)
@[reducible] def zj (j:Nat) (b:Bool) (d:Nat) (i:I):GI:=⟨some (j,b),some d,i⟩
def qbuz:IC:=zr [zv 4 zf]
def qbvu:IC:=zr [zm 19 0,zv 20 (.len true (.t 19)),zv 21 (.bin .gtr .no (.t 20) (zc 2000)),zm 22 21,zw 22 false 23 (zo 1),zw 22 false 24 (.len true (.t 23)),zw 22 false 25 (.bin .gtr .no (.t 24) (zc 2000)),zv 26 (.pick (.t 22) (.c (.bool true)) (.t 25))]
def qbz8:IC:=zr [zi 27 (zk 6 []),zm 4 27]
def qb0x:IC:=zr [zm 29 0,zi 30 (zk 7 [zI 29]),zm 28 30,zv 31 (zx 28 0),zv 32 (zx 28 1),zv 33 (zx 28 2),zi 5 zaN,zn (.st 5 zN (.t 5) (.t 31)),zm 6 32,zm 7 33]
def qbwb:IC:=zr [zm 35 1,zi 36 (zk 7 [zI 35]),zm 34 36,zv 37 (zx 34 0),zv 38 (zx 34 1),zv 39 (zx 34 2),zi 8 zaN,zn (.st 5 zN (.t 8) (.t 37)),zm 9 38,zm 10 39]
def qbyq:IC:=zr [zm 40 7,zv 41 (.bin .neq .no (.t 40) (zc 0)),zm 42 41,zw 42 false 43 (zo 10),zw 42 false 44 (.bin .neq .no (.t 43) (zc 0)),zv 45 (.pick (.t 42) (.c (.bool true)) (.t 44)),zm 46 45,zw 46 false 47 (zd 5 4),zw 46 false 48 (zg 1 47),zw 46 false 49 (.len false (.t 48)),zw 46 false 50 (zq (.t 49) (zc 0)),zv 51 (.pick (.t 46) (.c (.bool true)) (.t 50))]
def qbug:IC:=zr [zi 52 (zk 6 []),zm 4 52]
def qb0u:IC:=zr [zm 53 0,zv 54 (.bin .add .no (.t 53) (.c (.str [10,59]))),zm 55 1,zv 56 (.bin .add .no (.t 54) (.t 55)),zm 11 56]
def qbwh:IC:=zr [zm 58 11,zi 59 (zk 7 [zI 58]),zm 57 59,zv 60 (zx 57 0),zv 61 (zx 57 1),zv 62 (zx 57 2),zi 12 zaN,zn (.st 5 zN (.t 12) (.t 60)),zm 13 61,zm 14 62]
def qbzp:IC:=zr [zm 64 0,zv 65 (.bin .add .no (.t 64) (.c (.str [10]))),zm 66 1,zv 67 (.bin .add .no (.t 65) (.t 66)),zi 68 (zk 7 [zI 67]),zm 63 68,zv 69 (zx 63 0),zv 70 (zx 63 1),zv 71 (zx 63 2),zi 15 zaN,zn (.st 5 zN (.t 15) (.t 69)),zm 16 70,zm 17 71]
def qw7:IC:=.drw [zp (zv 72 (zd 5 4)),zp (zv 73 (zg 1 72)),(zi 74 (.app 5 zZ 64 (.sl 5) (.c .nils) (.t 73)),[]),zp (zv 75 (zd 8 4)),(zv 76 (zg 1 75),[2]),(zi 77 (.app 5 zZ 64 (.sl 5) (.t 74) (.t 76)),[]),(zv 78 (.bld [(.int .i64 0),(.int .i64 0),(.int .i64 0),(.str []),.nils] [(0,1,(zc 37)),(4,1,(.t 77))]),[]),(zi 18 zaN,[1,2,4,5]),(zn (.st 5 zN (.t 18) (.t 78)),[])]
def qbhw:IC:=zr [zm 79 14,zv 80 (zq (.t 79) (zc 0)),zm 81 80,zw 81 true 82 (zl 5 12),zw 81 true 83 (zl 5 18),zj 81 true 84 (zk 11 [zA 82,zA 83]),zv 85 (.pick (.t 81) (.t 84) (.c (.bool false))),zm 86 85,zw 86 false 87 (zo 17),zw 86 false 88 (zq (.t 87) (zc 0)),zw 86 false 89 (zo 88),zw 89 true 90 (zl 5 15),zw 89 true 91 (zl 5 18),zj 89 true 92 (zk 11 [zA 90,zA 91]),zw 86 false 93 (.pick (.t 89) (.t 92) (.c (.bool false))),zv 94 (.pick (.t 86) (.c (.bool true)) (.t 93)),zm 95 94,zj 95 true 96 (zk 6 []),zv 97 (.pick (.t 95) (.t 96) (.c (.bool false))),zm 4 97]
def k0a:IC:=(.seq qbuz (.seq (.seq qbvu (.cond (.t 26) (.seq qbz8 .ret) .skip)) (.seq qb0x (.seq qbwb (.seq (.seq qbyq (.cond (.t 51) (.seq qbug .ret) .skip)) (.seq qb0u (.seq qbwh (.seq qbzp (.seq qw7 (.seq qbhw .ret))))))))))
@[go_sem] def s0a:List (RV×Co):=[(.t 4,.id)]
theorem c0a:cFun Try.prog 5 = some (98,k0a,s0a):=by kernel_rfl

def qbld:IC:=zr [zv 0 zf]
def qbrd:IC:=zr [zi 17 (zk 7 [((.c (.str [100,97,116,97,32,66,32,61,32,84,32,124,32,70,59])),.id)]),zm 16 17,zv 18 (zx 16 0),zv 19 (zx 16 1),zv 20 (zx 16 2),zi 1 zaN,zn (.st 5 zN (.t 1) (.t 18)),zm 2 19,zm 3 20]
def qbol:IC:=zr [zi 22 (zk 7 [((.c (.str [99,108,97,115,115,32,69,113,32,97,32,61,62,32,79,114,100,32,97,32,119,104,101,114,101,32,123,32,108,116,32,58,58,32,97,32,45,62,32,97,32,45,62,32,66,32,125,59,32,105,110,115,116,97,110,99,101,32,69,113,32,66,32,119,104,101,114,101,32,123,32,101,113,32,120,32,121,32,61,32,84,59,32,125,59,32,102,32,58,58,32,66,59,32,102,32,61,32,84])),.id)]),zm 21 22,zv 23 (zx 21 0),zv 24 (zx 21 1),zv 25 (zx 21 2),zi 4 zaN,zn (.st 5 zN (.t 4) (.t 23)),zm 5 24,zm 6 25]
def qbod:IC:=zr [zi 27 (zk 8 [((.c (.str [100,97,116,97,32,77,32,97,32,61,32,78,32,124,32,74,32,97])),.id)]),zm 26 27,zv 28 (zx 26 0),zv 29 (zx 26 1),zv 30 (zx 26 2),zi 7 zaN,zn (.st 5 zN (.t 7) (.t 28)),zm 8 29,zm 9 30]
def qbqe:IC:=zr [zi 32 (zk 7 [((.c (.str [120,32,61,32,49,59,32,59])),.id)]),zm 31 32,zv 33 (zx 31 0),zv 34 (zx 31 1),zv 35 (zx 31 2),zi 10 zaN,zn (.st 5 zN (.t 10) (.t 33)),zm 11 34,zm 12 35]
def qbtu:IC:=zr [zi 37 (zk 7 [((.c (.str [])),.id)]),zm 36 37,zv 38 (zx 36 0),zv 39 (zx 36 1),zv 40 (zx 36 2),zi 13 zaN,zn (.st 5 zN (.t 13) (.t 38)),zm 14 39,zm 15 40]
def qbl3:IC:=zr [zv 41 (zd 1 4),zv 42 (zg 1 41),zv 43 (.len false (.t 42)),zv 44 (.bin .neq .no (.t 43) (zc 1)),zm 45 44,zw 45 false 46 (zd 4 4),zw 45 false 47 (zg 1 46),zw 45 false 48 (.len false (.t 47)),zw 45 false 49 (.bin .neq .no (.t 48) (zc 4)),zv 50 (.pick (.t 45) (.c (.bool true)) (.t 49))]
def qbso:IC:=zr [zv 0 zf]
def qbhs:IC:=zr [zv 51 (zd 1 4),zv 52 (zg 1 51),zv 53 (.iad 5 (.t 52) (zc 0)),zv 54 (zd 53 3),zv 55 (zg 1 54),zv 56 (zq (.t 55) (.c (.str [66]))),zm 57 56,zw 57 true 58 (zo 2),zw 57 true 59 (zq (.t 58) (zc 0)),zv 60 (.pick (.t 57) (.t 59) (.c (.bool false))),zm 61 60,zw 61 true 62 (zo 3),zw 61 true 63 (zq (.t 62) (zc 0)),zv 64 (.pick (.t 61) (.t 63) (.c (.bool false))),zm 65 64,zw 65 true 66 (zd 4 4),zw 65 true 67 (zg 1 66),zw 65 true 68 (.iad 5 (.t 67) (zc 0)),zw 65 true 69 (zd 68 2),zw 65 true 70 (zg 1 69),zw 65 true 71 (zq (.t 70) (zc 1)),zv 72 (.pick (.t 65) (.t 71) (.c (.bool false))),zm 73 72,zw 73 true 74 (zd 4 4),zw 73 true 75 (zg 1 74),zw 73 true 76 (.iad 5 (.t 75) (zc 1)),zw 73 true 77 (zd 76 0),zw 73 true 78 (zg 1 77),zw 73 true 79 (zq (.t 78) (zc 36)),zv 80 (.pick (.t 73) (.t 79) (.c (.bool false))),zm 81 80,zw 81 true 82 (zo 6),zw 81 true 83 (zq (.t 82) (zc 0)),zv 84 (.pick (.t 81) (.t 83) (.c (.bool false))),zm 85 84,zw 85 true 86 (zd 7 2),zw 85 true 87 (zg 1 86),zw 85 true 88 (zq (.t 87) (zc 1)),zv 89 (.pick (.t 85) (.t 88) (.c (.bool false))),zm 90 89,zw 90 true 91 (zd 7 4),zw 90 true 92 (zg 1 91),zw 90 true 93 (.len false (.t 92)),zw 90 true 94 (zq (.t 93) (zc 3)),zv 95 (.pick (.t 90) (.t 94) (.c (.bool false))),zm 96 95,zw 96 true 97 (zo 9),zw 96 true 98 (zq (.t 97) (zc 0)),zv 99 (.pick (.t 96) (.t 98) (.c (.bool false))),zm 100 99,zw 100 true 101 (zo 11),zw 100 true 102 (zq (.t 101) (zc 7)),zv 103 (.pick (.t 100) (.t 102) (.c (.bool false))),zm 104 103,zw 104 true 105 (zo 12),zw 104 true 106 (zq (.t 105) (zc 5)),zv 107 (.pick (.t 104) (.t 106) (.c (.bool false))),zm 108 107,zw 108 true 109 (zd 13 0),zw 108 true 110 (zg 1 109),zw 108 true 111 (zq (.t 110) (zc 37)),zv 112 (.pick (.t 108) (.t 111) (.c (.bool false))),zm 113 112,zw 113 true 114 (zo 15),zw 113 true 115 (zq (.t 114) (zc 0)),zv 116 (.pick (.t 113) (.t 115) (.c (.bool false))),zm 0 116]
def k0dm:IC:=(.seq qbld (.seq qbrd (.seq qbol (.seq qbod (.seq qbqe (.seq qbtu (.seq (.seq qbl3 (.cond (.t 50) (.seq qbso .ret) .skip)) (.seq qbhs .ret))))))))
@[go_sem] def s0dm:List (RV×Co):=[(.t 0,.id)]
theorem c0dm:cFun Try.prog 6 = some (117,k0dm,s0dm):=by kernel_rfl

def qbta:IC:=zr [zi 2 zaN,zv 3 (.mov (zc 0)),zv 4 (.mov (zc 0))]
def qbog:IC:=zr [zm 5 0,zi 6 (zk 12 [zI 5,((.c (.fn 13 [] [])),.id)]),zv 7 (zx 6 0),zv 8 (zx 6 1),zv 9 (zx 6 2),zn (.st 5 zN (.t 2) (.t 7)),zm 3 8,zm 4 9]
def k0cu:IC:=(.seq qbta (.seq qbog .ret))
@[go_sem] def s0cu:List (RV×Co):=[(.c true 5 2,zN),(.t 3,.id),(.t 4,.id)]
theorem c0cu:cFun Try.prog 7 = some (10,k0cu,s0cu):=by kernel_rfl

def qbi0:IC:=zr [zi 2 zaN,zv 3 (.mov (zc 0)),zv 4 (.mov (zc 0))]
def qbss:IC:=zr [zm 5 0,zi 6 (zk 12 [zI 5,((.c (.fn 20 [] [])),.id)]),zv 7 (zx 6 0),zv 8 (zx 6 1),zv 9 (zx 6 2),zn (.st 5 zN (.t 2) (.t 7)),zm 3 8,zm 4 9]
def k0cv:IC:=(.seq qbi0 (.seq qbss .ret))
@[go_sem] def s0cv:List (RV×Co):=[(.c true 5 2,zN),(.t 3,.id),(.t 4,.id)]
theorem c0cv:cFun Try.prog 8 = some (10,k0cv,s0cv):=by kernel_rfl

def qbq1:IC:=zr [zi 2 (.box (.t 0)),zi 3 (.box (.t 1)),zv 4 zf]
def qblm:IC:=zr [zv 6 (zd 2 0),zv 7 (zg 1 6),zv 8 (zd 3 0),zv 9 (zg 1 8),zv 10 (.bin .neq .no (.t 7) (.t 9)),zm 11 10,zw 11 false 12 (zd 2 3),zw 11 false 13 (zg 1 12),zw 11 false 14 (zd 3 3),zw 11 false 15 (zg 1 14),zw 11 false 16 (.bin .neq .no (.t 13) (.t 15)),zv 17 (.pick (.t 11) (.c (.bool true)) (.t 16)),zm 18 17,zw 18 false 19 (zd 2 2),zw 18 false 20 (zg 1 19),zw 18 false 21 (zd 3 2),zw 18 false 22 (zg 1 21),zw 18 false 23 (.bin .neq .no (.t 20) (.t 22)),zv 24 (.pick (.t 18) (.c (.bool true)) (.t 23)),zm 25 24,zw 25 false 26 (zd 2 4),zw 25 false 27 (zg 1 26),zw 25 false 28 (.len false (.t 27)),zw 25 false 29 (zd 3 4),zw 25 false 30 (zg 1 29),zw 25 false 31 (.len false (.t 30)),zw 25 false 32 (.bin .neq .no (.t 28) (.t 31)),zv 33 (.pick (.t 25) (.c (.bool true)) (.t 32))]
def qbpb:IC:=zr [zv 4 zf]
def qbn3:IC:=zr [zv 34 (zd 2 4),zv 35 (zg 1 34),zv 36 (.len false (.t 35)),zv 37 (.mov (zc 0))]
def qbpd:IC:=zr [zv 38 (.bin .lss .no (.t 37) (.t 36))]
def qbgq:IC:=zr [zm 39 37,zm 5 39]
def qbp0:IC:=.drw [zp (zv 40 (zd 2 4)),zp (zv 41 (zg 1 40)),zp (zm 42 5),zp (zv 43 (.iad 5 (.t 41) (.t 42))),zp (zv 44 (zl 5 43)),zp (zv 45 (zd 3 4)),zp (zv 46 (zg 1 45)),zp (zm 47 5),zp (zv 48 (.iad 5 (.t 46) (.t 47))),zp (zv 49 (zl 5 48)),(zi 50 (zk 11 [zA 44,zA 49]),[]),zp (zv 51 (.un .not (.t 50)))]
def qbou:IC:=zr [zv 4 zf]
def qbl1:IC:=zr [zv 52 (.bin .add .no (.t 37) (zc 1)),zm 37 52]
def qbh9:IC:=(.seq qbpd (.seq (.cond (.t 38) .skip (.exit 0)) (.seq (.block 1 (.seq qbgq (.seq qbp0 (.cond (.t 51) (.seq qbou .ret) .skip)))) qbl1)))
def qbee:IC:=zr [zv 4 (.mov (.c (.bool true)))]
def k0ch:IC:=(.seq qbq1 (.seq (.seq qblm (.cond (.t 33) (.seq qbpb .ret) .skip)) (.seq (.seq qbn3 (.block 0 (.loop qbh9))) (.seq qbee .ret))))
@[go_sem] def s0ch:List (RV×Co):=[(.t 4,.id)]
theorem c0ch:cFun Try.prog 11 = some (53,k0ch,s0ch):=by kernel_rfl

def qbkt:IC:=zr [zi 4 zaN,zv 5 (.mov (zc 0)),zv 6 (.mov (zc 0))]
def qbm1:IC:=zr [zm 15 0,zi 16 (zk 21 [zI 15]),zm 14 16,zv 17 (zx 14 0),zv 18 (zx 14 1),zv 19 (zx 14 2),zm 7 17,zm 8 18,zm 9 19]
def qbnq:IC:=zr [zm 20 9,zv 21 (.bin .neq .no (.t 20) (zc 0))]
def qbhc:IC:=zr [zv 22 (.bld [(.int .i64 0),(.int .i64 0),(.int .i64 0),(.str []),.nils] []),zm 23 8,zm 24 9,zn (.st 5 zN (.t 4) (.t 22)),zm 5 23,zm 6 24]
def qbpo:IC:=zr [zm 25 7,zi 26 (zk 22 [((.t 25),(.sl 4))]),zm 10 26]
def qbi5:IC:=zr [zm 27 1,zm 28 10,zi 29 (.call (.t 27) [zI 28]),zi 11 zaN,zn (.st 5 zN (.t 11) (.t 29))]
def qbn1:IC:=zr [zm 31 10,zi 32 (zk 23 [zI 31]),zm 30 32,zv 33 (zx 30 0),zv 34 (zx 30 1),zm 12 33,zm 13 34]
def qbp4:IC:=zr [zm 35 13,zv 36 (.bin .neq .no (.t 35) (zc 0))]
def qbqi:IC:=zr [zv 37 (.bld [(.int .i64 0),(.int .i64 0),(.int .i64 0),(.str []),.nils] []),zm 38 12,zm 39 13,zn (.st 5 zN (.t 4) (.t 37)),zm 5 38,zm 6 39]
def qbqx:IC:=zr [zv 40 (zl 5 11),zi 41 (zk 24 [zA 40]),zv 42 (.bin .gtr .no (.t 41) (zc 100))]
def qbds:IC:=.drw [(zv 43 (.bld [(.int .i64 0),(.int .i64 0),(.int .i64 0),(.str []),.nils] []),[]),zp (zv 44 (zd 11 1)),zp (zv 45 (zg 1 44)),(zn (.st 5 zN (.t 4) (.t 43)),[2]),zp (zm 5 45),zp (zv 6 (.mov (zc 2)))]
def qbey:IC:=zr [zv 46 (zl 5 11),zn (.st 5 zN (.t 4) (.t 46)),zv 5 (.mov (zc 0)),zv 6 (.mov (zc 0))]
def k0ct:IC:=(.seq qbkt (.seq qbm1 (.seq (.seq qbnq (.cond (.t 21) (.seq qbhc .ret) .skip)) (.seq qbpo (.seq qbi5 (.seq (.seq qbn1 (.seq qbp4 (.cond (.t 36) (.seq qbqi .ret) .skip))) (.seq (.seq qbqx (.cond (.t 42) (.seq qbds .ret) .skip)) (.seq qbey .ret))))))))
@[go_sem] def s0ct:List (RV×Co):=[(.c true 5 4,zN),(.t 5,.id),(.t 6,.id)]
theorem c0ct:cFun Try.prog 12 = some (47,k0ct,s0ct):=by kernel_rfl

def qbo3:IC:=zr [zi 1 (.box (.t 0)),zi 2 zaN]
def qbk0:IC:=zr [zv 6 (zg 1 1),zi 7 (zk 14 [zI 6,((.c (.str [59])),.id)]),zi 3 (.alo [.nilf]),zn (.st 1 .id (.t 3) (.t 7))]
def qbgd:IC:=zr [zv 9 (.mfn 16 [] [(.t 1)]),zv 10 (.mfn 18 [] [(.t 1),(.t 3)]),zi 11 (zk 15 [((.c .nils),(.sl 5)),zI 9,zI 10]),zm 8 11,zv 12 (zx 8 0),zv 13 (zx 8 1),zm 4 12,zm 5 13]
def qbgv:IC:=zr [zm 14 4,zv 15 (.bld [(.int .i64 0),(.int .i64 0),(.int .i64 0),(.str []),.nils] [(0,1,(zc 37)),(4,1,(.t 14))]),zn (.st 5 zN (.t 2) (.t 15))]
def k0cr:IC:=(.seq qbo3 (.seq qbk0 (.seq qbgd (.seq qbgv .ret))))
@[go_sem] def s0cr:List (RV×Co):=[(.c true 5 2,zN)]
theorem c0cr:cFun Try.prog 13 = some (16,k0cr,s0cr):=by kernel_rfl

def qbtr:IC:=zr [zi 2 (.box (.t 0)),zi 3 (.box (.t 1)),zv 4 (.mov (.c .nilf))]
def qbtb:IC:=zr [zi 5 (.alo [(.bool false)]),zn (.st 1 .id (.t 5) (.c (.bool false)))]
def qbkj:IC:=zr [zv 6 (.mfn 25 [] [(.t 5),(.t 2),(.t 3)]),zm 4 6]
def k0dd:IC:=(.seq qbtr (.seq qbtb (.seq qbkj .ret)))
@[go_sem] def s0dd:List (RV×Co):=[(.t 4,.id)]
theorem c0dd:cFun Try.prog 14 = some (7,k0dd,s0dd):=by kernel_rfl

def qbkx:IC:=zr [zv 6 (.mov (.c .nils)),zv 7 zf]
def qboo:IC:=zr [zm 10 2,zi 11 (.call (.t 10) [])]
def qbgl:IC:=zr [zm 13 1,zi 14 (.call (.t 13) []),zm 12 14,zv 15 (zx 12 0),zv 16 (zx 12 1),zi 8 zaN,zn (.st 5 zN (.t 8) (.t 15)),zm 9 16]
def qbns:IC:=zr [zm 17 9,zv 18 (.un .not (.t 17))]
def qbht:IC:=zr [zm 19 0,zm 6 19,zv 7 zf]
def qbhn:IC:=zr [zm 20 0,zv 21 (zl 5 8),zv 22 (.bsl 5 [zA 21]),zi 23 (.app 5 zZ 64 (.sl 5) (.t 20) (.t 22)),zm 0 23]
def qbhj:IC:=(.seq (.seq qboo (.cond (.t 11) .skip (.exit 0))) (.block 1 (.seq qbgl (.seq (.seq qbns (.cond (.t 18) (.seq qbht .ret) .skip)) qbhn))))
def qbpn:IC:=zr [zm 24 0,zm 6 24,zv 7 (.mov (.c (.bool true)))]
def k0dl:IC:=(.seq qbkx (.seq (.block 0 (.loop qbhj)) (.seq qbpn .ret)))
@[go_sem] def s0dl:List (RV×Co):=[(.t 6,(.sl 5)),(.t 7,.id)]
theorem c0dl:cFun Try.prog 15 = some (25,k0dl,s0dl):=by kernel_rfl

def qbl9:IC:=zr [zi 1 zaN,zv 2 zf]
def qbjx:IC:=zr [zv 3 (zg 1 0),zi 4 (zk 17 [zI 3]),zv 5 (zx 4 0),zv 6 (zx 4 1),zn (.st 5 zN (.t 1) (.t 5)),zm 2 6]
def k0cp:IC:=(.seq qbl9 (.seq qbjx .ret))
@[go_sem] def s0cp:List (RV×Co):=[(.c true 5 1,zN),(.t 2,.id)]
theorem c0cp:cFun Try.prog 16 = some (7,k0cp,s0cp):=by kernel_rfl

def qbjw:IC:=zr [zi 2 zaN,zv 3 zf]
def qbn8:IC:=zr [zm 5 0,zi 6 (zk 19 [zI 5]),zv 7 (.fld false 1 1 (.t 6)),zv 8 (.bld [(.int .i64 0),(.int .i64 0),(.int .i64 0),(.str []),.nils] [(1,1,(.t 7))]),zi 4 zaN,zn (.st 5 zN (.t 4) (.t 8))]
def qbgj:IC:=zr [zm 10 0,zi 11 (zk 26 [zI 10,((.c (.str [100,97,116,97])),.id)]),zm 9 11]
def qbkw:IC:=zr [zm 12 0,zv 13 (zl 5 4),zi 14 (zk 27 [zI 12,zA 13]),zv 15 (zx 14 0),zv 16 (zx 14 1),zn (.st 5 zN (.t 2) (.t 15)),zm 3 16]
def qbg9:IC:=zr [zm 18 0,zi 19 (zk 26 [zI 18,((.c (.str [99,108,97,115,115])),.id)]),zm 17 19]
def qbgo:IC:=zr [zv 20 (zd 4 0),zn (.st 1 .id (.t 20) (zc 35))]
def qbs4:IC:=zr [zm 21 0,zv 22 (zl 5 4),zi 23 (zk 28 [zI 21,zA 22]),zv 24 (zx 23 0),zv 25 (zx 23 1),zn (.st 5 zN (.t 2) (.t 24)),zm 3 25]
def qbhb:IC:=zr [zm 27 0,zi 28 (zk 26 [zI 27,((.c (.str [105,110,115,116,97,110,99,101])),.id)]),zm 26 28]
def qbj4:IC:=zr [zv 29 (zd 4 0),zn (.st 1 .id (.t 29) (zc 36))]
def qbis:IC:=zr [zm 30 0,zv 31 (zl 5 4),zi 32 (zk 28 [zI 30,zA 31]),zv 33 (zx 32 0),zv 34 (zx 32 1),zn (.st 5 zN (.t 2) (.t 33)),zm 3 34]
def qbay:IC:=zr [zm 35 0,zi 36 (zk 29 [zI 35]),zv 37 (zx 36 0),zv 38 (zx 36 1),zn (.st 5 zN (.t 2) (.t 37)),zm 3 38]
def k0co:IC:=(.seq qbjw (.seq qbn8 (.seq (.block 0 (.seq qbgj (.cond (.t 9) (.seq qbkw .ret) (.seq qbg9 (.cond (.t 17) (.seq qbgo (.seq qbs4 .ret)) (.seq qbhb (.cond (.t 26) (.seq qbj4 (.seq qbis .ret)) .skip))))))) (.seq qbay .ret))))
@[go_sem] def s0co:List (RV×Co):=[(.c true 5 2,zN),(.t 3,.id)]
theorem c0co:cFun Try.prog 17 = some (39,k0co,s0co):=by kernel_rfl

def qbi2:IC:=zr [zv 2 zf]
def qbiu:IC:=zr [zv 3 (zg 1 0),zi 4 (zk 19 [zI 3]),zv 5 (.fld false 1 0 (.t 4)),zv 6 (.bin .neq .no (.t 5) (zc 0)),zm 7 6,zw 7 true 8 (zg 1 1),zj 7 true 9 (.call (.t 8) []),zv 10 (.pick (.t 7) (.t 9) (.c (.bool false))),zm 11 10,zw 11 true 12 (zg 1 0),zj 11 true 13 (zk 19 [zI 12]),zw 11 true 14 (.fld false 1 0 (.t 13)),zw 11 true 15 (.bin .neq .no (.t 14) (zc 0)),zv 16 (.pick (.t 11) (.t 15) (.c (.bool false))),zm 2 16]
def k0cq:IC:=(.seq qbi2 (.seq qbiu .ret))
@[go_sem] def s0cq:List (RV×Co):=[(.t 2,.id)]
theorem c0cq:cFun Try.prog 18 = some (17,k0cq,s0cq):=by kernel_rfl

def qbom:IC:=zr [zi 2 zaT]
def qbqs:IC:=zr [zm 4 0,zi 5 (zk 30 [zI 4]),zm 3 5]
def qbig:IC:=zr [zv 6 (.bld [(.int .i64 0),(.int .i64 0),(.int .i64 0),(.str [])] []),zn (.st 4 .id (.t 2) (.t 6))]
def qbhy:IC:=.drw [zp (zm 8 0),zp (zv 9 (.nck (.t 8))),zp (zv 10 (zd 9 5)),zp (zv 11 (zg 1 10)),zp (zm 12 0),zp (zv 13 (.nck (.t 12))),zp (zv 14 (zd 13 0)),zp (zv 15 (zg 1 14)),zp (zv 16 (.len false (.t 15))),zp (zv 17 (.bin .lss .no (.t 11) (.t 16))),zp (zm 7 17)]
def qbnk:IC:=.drw [zp (zm 18 0),zp (zv 19 (.nck (.t 18))),zp (zv 20 (zd 19 0)),zp (zv 21 (zg 1 20)),zp (zm 22 0),zp (zv 23 (.nck (.t 22))),zp (zv 24 (zd 23 5)),zp (zv 25 (zg 1 24)),zp (zv 26 (.iad 4 (.t 21) (.t 25))),zp (zv 27 (zl 4 26)),(zn (.st 4 .id (.t 2) (.t 27)),[])]
def qbku:IC:=zr [zm 28 0,zv 29 (.nck (.t 28)),zv 30 (zd 29 1),zv 31 (zl 4 30),zn (.st 4 .id (.t 2) (.t 31))]
def k0bd:IC:=(.seq qbom (.seq (.block 0 (.seq qbqs (.cond (.t 3) (.seq qbig .ret) (.seq qbhy (.cond (.t 7) (.seq qbnk .ret) .skip))))) (.seq qbku .ret)))
@[go_sem] def s0bd:List (RV×Co):=[(.c true 4 2,.id)]
theorem c0bd:cFun Try.prog 19 = some (32,k0bd,s0bd):=by kernel_rfl

def qbml:IC:=zr [zi 2 zaN]
def qbmt:IC:=zr [zm 6 0,zi 7 (zk 17 [zI 6]),zm 5 7,zv 8 (zx 5 0),zv 9 (zx 5 1),zi 3 zaN,zn (.st 5 zN (.t 3) (.t 8)),zm 4 9]
def qbnm:IC:=zr [zv 10 (zl 5 3),zn (.st 5 zN (.t 2) (.t 10))]
def k0cs:IC:=(.seq qbml (.seq qbmt (.seq qbnm .ret)))
@[go_sem] def s0cs:List (RV×Co):=[(.c true 5 2,zN)]
theorem c0cs:cFun Try.prog 20 = some (11,k0cs,s0cs):=by kernel_rfl

def qbjj:IC:=zr [zi 2 (.alo [.nils]),zi 3 (.alo [(.int .i64 0)]),zi 4 (.alo [(.int .i64 0)])]
def qbk1:IC:=zr [zm 8 0,zv 9 (.len true (.t 8)),zv 10 (.bin .gtr .no (.t 9) (zc 1048576))]
def qbq6:IC:=zr [zn (.st 1 (.sl 4) (.t 2) (.c .nils)),zn (.st 1 .id (.t 3) (zc 0)),zn (.st 1 .id (.t 4) (zc 2))]
def qbsg:IC:=zr [zi 5 (.alo [.nils])]
def qbtz:IC:=zr [zm 11 0,zi 12 (zk 31 [zI 11])]
def qbk3:IC:=zr [zm 15 7,zv 16 (.bin .neq .no (.t 15) (zc 0))]
def qbms:IC:=.drw [zp (zv 17 (zd 6 1)),zp (zv 18 (zg 1 17)),zp (zm 19 7),(zn (.st 1 (.sl 4) (.t 2) (.c .nils)),[1]),(zn (.st 1 .id (.t 3) (.t 18)),[]),(zn (.st 1 .id (.t 4) (.t 19)),[])]
def qbk4:IC:=zr [zv 20 (zg 1 5),zv 21 (zl 4 6),zv 22 (.bsl 4 [zI 21]),zi 23 (.app 4 (.agg [(.int .i64 0),(.int .i64 0),(.int .i64 0),(.str [])]) 40 (.sl 4) (.t 20) (.t 22)),zn (.st 1 (.sl 4) (.t 5) (.t 23))]
def qx8:IC:=(.block 1 (.seq (.seq qbk3 (.cond (.t 16) (.seq qbms .ret) .skip)) qbk4))
def qtk:IC:=zr [zi 6 zaT,zn (.st 4 .id (.t 6) (.t 13))]
def qsf:IC:=zr [zm 7 14]
def qbdv:IC:=zr [zv 24 (zg 1 5),zm 25 0,zv 26 (.len true (.t 25)),zv 27 (.bld [(.int .i64 0),(.int .i64 0),(.int .i64 0),(.str [])] [(0,1,(zc 0)),(1,1,(.t 26))]),zv 28 (.bsl 4 [zI 27]),zi 29 (.app 4 (.agg [(.int .i64 0),(.int .i64 0),(.int .i64 0),(.str [])]) 40 (.sl 4) (.t 24) (.t 28)),zn (.st 1 (.sl 4) (.t 2) (.t 29)),zn (.st 1 .id (.t 3) (zc 0)),zn (.st 1 .id (.t 4) (zc 0))]
def k0bo:IC:=(.seq qbjj (.seq (.seq qbk1 (.cond (.t 10) (.seq qbq6 .ret) .skip)) (.seq qbsg (.seq (.seq qbtz (.block 0 (.rng (.t 12) [13,14] (.seq qtk qsf) qx8))) (.seq qbdv .ret)))))
@[go_sem] def s0bo:List (RV×Co):=[(.c false 1 2,(.sl 4)),(.c false 1 3,.id),(.c false 1 4,.id)]
theorem c0bo:cFun Try.prog 21 = some (30,k0bo,s0bo):=by kernel_rfl

def qbqa:IC:=zr [zv 2 (.mov (.c .nilp))]
def qbho:IC:=zr [zv 6 (.bld [.nils,(.int .i64 0),(.int .i64 0),(.int .i64 0),(.str []),(.int .i64 0),(.int .i64 0),(.int .i64 0),(.int .i64 0)] []),zi 7 (.box (.t 6)),zm 3 7]
def qbow:IC:=zr [zm 8 0,zv 9 (.len false (.t 8)),zv 10 (.mov (zc 0))]
def qbh3:IC:=zr [zv 11 (.bin .lss .no (.t 10) (.t 9))]
def qbpz:IC:=zr [zv 12 (.iad 4 (.t 8) (.t 10)),zv 13 (zl 4 12),zi 5 zaT,zn (.st 4 .id (.t 5) (.t 13))]
def qbj8:IC:=zr [zv 14 (zd 5 0),zv 15 (zg 1 14),zv 16 (zq (.t 15) (zc 0))]
def qbrn:IC:=zr [zm 17 3,zv 18 (zd 5 1),zv 19 (zg 1 18),zv 20 (.nck (.t 17)),zv 21 (zd 20 1),zv 22 (zd 21 1),zn (.st 1 .id (.t 22) (.t 19))]
def qblh:IC:=.drw [zp (zm 23 3),zp (zm 24 3),zp (zv 25 (.nck (.t 24))),zp (zv 26 (zd 25 0)),zp (zv 27 (zg 1 26)),zp (zv 28 (zl 4 5)),(zv 29 (.bsl 4 [zI 28]),[]),(zi 30 (.app 4 (.agg [(.int .i64 0),(.int .i64 0),(.int .i64 0),(.str [])]) 40 (.sl 4) (.t 27) (.t 29)),[]),zp (zv 31 (.nck (.t 23))),zp (zv 32 (zd 31 0)),(zn (.st 1 (.sl 4) (.t 32) (.t 30)),[])]
def qbmk:IC:=zr [zv 33 (.bin .add .no (.t 10) (zc 1)),zm 10 33]
def qbg3:IC:=(.seq qbh3 (.seq (.cond (.t 11) .skip (.exit 0)) (.seq (.block 1 (.seq qbpz (.seq (.seq qbj8 (.cond (.t 16) (.seq qbrn (.exit 0)) .skip)) qblh))) qbmk)))
def qbc6:IC:=zr [zm 34 3,zm 2 34]
def k0bb:IC:=(.seq qbqa (.seq qbho (.seq (.seq qbow (.block 0 (.loop qbg3))) (.seq qbc6 .ret))))
@[go_sem] def s0bb:List (RV×Co):=[(.t 2,.id)]
theorem c0bb:cFun Try.prog 22 = some (35,k0bb,s0bb):=by kernel_rfl

def qbmm:IC:=zr [zv 2 (.mov (zc 0)),zv 3 (.mov (zc 0))]
def qblu:IC:=zr [zm 5 0,zv 6 (.bin .eql .ptr (.t 5) (.c .nilp)),zm 4 6]
def qbqb:IC:=zr [zv 2 (.mov (zc 0)),zv 3 (.mov (zc 1))]
def qbio:IC:=zr [zm 8 0,zv 9 (.nck (.t 8)),zv 10 (zd 9 7),zv 11 (zg 1 10),zv 12 (.bin .neq .no (.t 11) (zc 0)),zm 7 12]
def qbrq:IC:=.drw [zp (zm 13 0),zp (zv 14 (.nck (.t 13))),zp (zv 15 (zd 14 8)),zp (zv 16 (zg 1 15)),zp (zm 17 0),zp (zv 18 (.nck (.t 17))),zp (zv 19 (zd 18 7)),zp (zv 20 (zg 1 19)),zp (zm 2 16),zp (zm 3 20)]
def qbnu:IC:=.drw [zp (zm 22 0),zp (zv 23 (.nck (.t 22))),zp (zv 24 (zd 23 5)),zp (zv 25 (zg 1 24)),zp (zm 26 0),zp (zv 27 (.nck (.t 26))),zp (zv 28 (zd 27 0)),zp (zv 29 (zg 1 28)),zp (zv 30 (.len false (.t 29))),zp (zv 31 (.bin .lss .no (.t 25) (.t 30))),zp (zm 21 31)]
def qbjg:IC:=.drw [zp (zm 32 0),zp (zv 33 (.nck (.t 32))),zp (zv 34 (zd 33 0)),zp (zv 35 (zg 1 34)),zp (zm 36 0),zp (zv 37 (.nck (.t 36))),zp (zv 38 (zd 37 5)),zp (zv 39 (zg 1 38)),zp (zv 40 (.iad 4 (.t 35) (.t 39))),zp (zv 41 (zd 40 1)),zp (zv 42 (zg 1 41)),zp (zm 2 42),zp (zv 3 (.mov (zc 5)))]
def qbrz:IC:=zr [zm 43 0,zv 44 (.nck (.t 43)),zv 45 (zd 44 1),zv 46 (zd 45 1),zv 47 (zg 1 46),zm 2 47,zv 3 (.mov (zc 0))]
def k0bm:IC:=(.seq qbmm (.seq (.block 0 (.seq qblu (.cond (.t 4) (.seq qbqb .ret) (.seq qbio (.cond (.t 7) (.seq qbrq .ret) (.seq qbnu (.cond (.t 21) (.seq qbjg .ret) .skip))))))) (.seq qbrz .ret)))
@[go_sem] def s0bm:List (RV×Co):=[(.t 2,.id),(.t 3,.id)]
theorem c0bm:cFun Try.prog 23 = some (48,k0bm,s0bm):=by kernel_rfl

def qbs3:IC:=zr [zi 1 (.box (.t 0)),zv 2 (.mov (zc 0))]
def qbkk:IC:=zr [zi 3 (.alo [(.int .i64 0)]),zn (.st 1 .id (.t 3) (zc 0))]
def qbpf:IC:=zr [zv 5 (zl 5 1),zi 6 (zk 32 [zA 5,((zc 1),.id)])]
def qbj7:IC:=zr [zv 9 (zg 1 3),zm 10 4,zv 11 (.mm true (.t 9) (.t 10)),zn (.st 1 .id (.t 3) (.t 11))]
def q8c:IC:=(.block 1 qbj7)
def q9s:IC:=zr [zm 4 7]
def qbqp:IC:=zr [zv 12 (zg 1 3),zm 2 12]
def k0cl:IC:=(.seq qbs3 (.seq qbkk (.seq (.seq qbpf (.block 0 (.rng (.t 6) [7,8] q9s q8c))) (.seq qbqp .ret))))
@[go_sem] def s0cl:List (RV×Co):=[(.t 2,.id)]
theorem c0cl:cFun Try.prog 24 = some (13,k0cl,s0cl):=by kernel_rfl

def qbi9:IC:=zr [zv 3 zf]
def qbjo:IC:=zr [zv 4 (zg 1 0)]
def qbky:IC:=zr [zv 5 (zg 1 1),zv 6 (zg 1 2),zi 7 (zk 26 [zI 5,zI 6]),zm 3 7]
def qble:IC:=zr [zn (.st 1 .id (.t 0) (.c (.bool true)))]
def qbiw:IC:=zr [zv 3 (.mov (.c (.bool true)))]
def k0de:IC:=(.seq qbi9 (.seq (.seq qbjo (.cond (.t 4) (.seq qbky .ret) .skip)) (.seq qble (.seq qbiw .ret))))
@[go_sem] def s0de:List (RV×Co):=[(.t 3,.id)]
theorem c0de:cFun Try.prog 25 = some (8,k0de,s0de):=by kernel_rfl

def qbtw:IC:=zr [zv 4 zf]
def qbhv:IC:=zr [zm 5 0,zm 6 1,zi 7 (zk 33 [zI 5,zI 6]),zv 8 (.un .not (.t 7))]
def qbm9:IC:=zr [zv 4 zf]
def qbh1:IC:=zr [zm 9 0,zi 10 (zk 34 [zI 9])]
def qbjk:IC:=zr [zv 4 (.mov (.c (.bool true)))]
def k0bi:IC:=(.seq qbtw (.seq (.seq qbhv (.cond (.t 8) (.seq qbm9 .ret) .skip)) (.seq qbh1 (.seq qbjk .ret))))
@[go_sem] def s0bi:List (RV×Co):=[(.t 4,.id)]
theorem c0bi:cFun Try.prog 26 = some (11,k0bi,s0bi):=by kernel_rfl

def qbgu:IC:=zr [zi 2 (.box (.t 0)),zi 3 (.box (.t 1)),zi 4 zaN,zv 5 zf]
def qbqf:IC:=zr [zv 11 (zg 1 2),zi 12 (zk 35 [zI 11,((zc 2),.id)]),zm 10 12,zv 13 (zx 10 0),zv 14 (zx 10 1),zi 6 zaT,zn (.st 4 .id (.t 6) (.t 13)),zm 7 14]
def qbtd:IC:=zr [zm 15 7,zv 16 (.un .not (.t 15))]
def qbnd:IC:=zr [zv 17 (zl 5 3),zn (.st 5 zN (.t 4) (.t 17)),zv 5 zf]
def qbtn:IC:=zr [zv 19 (.mfn 36 [] [(.t 2)]),zv 20 (.mfn 38 [] [(.t 2)]),zi 21 (zk 15 [((.c .nils),(.sl 5)),zI 19,zI 20]),zm 18 21,zv 22 (zx 18 0),zv 23 (zx 18 1),zm 8 22,zm 9 23]
def qblo:IC:=zr [zv 24 (zg 1 2),zi 25 (zk 39 [zI 24,((.c (.str [61])),.id)]),zv 26 (.un .not (.t 25))]
def qbgn:IC:=zr [zv 27 (zl 5 3),zn (.st 5 zN (.t 4) (.t 27)),zv 5 zf]
def qbl4:IC:=.drw [zp (zv 28 (zd 6 3)),zp (zv 29 (zg 1 28)),zp (zm 30 8),zp (zv 31 (.len false (.t 30))),zp (zv 32 (zd 3 0)),(zn (.st 1 .id (.t 32) (zc 33)),[1]),zp (zv 33 (zd 3 3)),(zn (.st 1 .id (.t 33) (.t 29)),[]),zp (zv 34 (zd 3 2)),(zn (.st 1 .id (.t 34) (.t 31)),[])]
def qbsw:IC:=zr [zm 36 8,zv 37 (.mfn 40 [] [(.t 2)]),zv 38 (zg 1 2),zi 39 (zk 14 [zI 38,((.c (.str [124])),.id)]),zi 40 (zk 15 [((.t 36),(.sl 5)),zI 37,zI 39]),zm 35 40,zv 41 (zx 35 0),zv 42 (zx 35 1),zv 43 (zd 3 4),zn (.st 1 (.sl 5) (.t 43) (.t 41)),zm 7 42]
def qbps:IC:=zr [zv 44 (zl 5 3),zm 45 7,zn (.st 5 zN (.t 4) (.t 44)),zm 5 45]
def k0dc:IC:=(.seq qbgu (.seq qbqf (.seq (.seq qbtd (.cond (.t 16) (.seq qbnd .ret) .skip)) (.seq qbtn (.seq (.seq qblo (.cond (.t 26) (.seq qbgn .ret) .skip)) (.seq qbl4 (.seq qbsw (.seq qbps .ret))))))))
@[go_sem] def s0dc:List (RV×Co):=[(.c true 5 4,zN),(.t 5,.id)]
theorem c0dc:cFun Try.prog 27 = some (46,k0dc,s0dc):=by kernel_rfl

def qbmy:IC:=zr [zi 3 (.box (.t 1)),zi 4 zaN,zv 5 zf]
def qbrs:IC:=zr [zm 12 0,zi 13 (zk 42 [zI 12]),zm 11 13,zv 14 (zx 11 0),zv 15 (zx 11 1),zm 6 14,zm 7 15]
def qbok:IC:=zr [zm 16 7,zv 17 (.un .not (.t 16))]
def qbk7:IC:=zr [zv 18 (zl 5 3),zn (.st 5 zN (.t 4) (.t 18)),zv 5 zf]
def qbik:IC:=zr [zm 20 0,zi 21 (zk 35 [zI 20,((zc 2),.id)]),zm 19 21,zv 22 (zx 19 0),zv 23 (zx 19 1),zi 8 zaT,zn (.st 4 .id (.t 8) (.t 22)),zm 7 23]
def qboa:IC:=zr [zm 24 7,zv 25 (.un .not (.t 24))]
def qbne:IC:=zr [zv 26 (zl 5 3),zn (.st 5 zN (.t 4) (.t 26)),zv 5 zf]
def qbs7:IC:=zr [zv 27 (zd 8 3),zv 28 (zg 1 27),zm 29 6,zv 30 (.len false (.t 29)),zv 31 (zd 3 3),zn (.st 1 .id (.t 31) (.t 28)),zv 32 (zd 3 2),zn (.st 1 .id (.t 32) (.t 30))]
def qbgw:IC:=zr [zv 9 (.mov (zc 31))]
def qbop:IC:=zr [zv 33 (zd 3 0),zv 34 (zg 1 33),zv 35 (zq (.t 34) (zc 35))]
def qbba:IC:=zr [zv 9 (.mov (zc 32))]
def qbaz:IC:=zr [zm 36 0,zi 37 (zk 19 [zI 36]),zv 38 (.fld false 1 0 (.t 37)),zv 39 (.bin .neq .no (.t 38) (zc 1))]
def qbb3:IC:=.drw [zp (zv 40 (zl 5 3)),zp (zm 41 0),(zi 42 (zk 43 [zI 41,((zc 5),.id)]),[0]),(zn (.st 5 zN (.t 4) (.t 40)),[]),zp (zm 5 42)]
def qbdc:IC:=zr [zm 44 0,zi 45 (zk 37 [zI 44]),zm 43 45,zv 46 (zx 43 0),zv 47 (zx 43 1),zi 10 zaN,zn (.st 5 zN (.t 10) (.t 46)),zm 7 47]
def qbbf:IC:=zr [zm 48 7,zv 49 (.un .not (.t 48))]
def qbcp:IC:=zr [zv 50 (zl 5 3),zn (.st 5 zN (.t 4) (.t 50)),zv 5 zf]
def qbaa:IC:=zr [zm 52 0,zm 53 6,zv 54 (zl 5 10),zv 55 (.bsl 5 [zA 54]),zi 56 (.app 5 zZ 64 (.sl 5) (.t 53) (.t 55)),zm 57 9,zi 58 (zk 44 [zI 52,((.t 56),(.sl 5)),zI 57]),zm 51 58,zv 59 (zx 51 0),zv 60 (zx 51 1),zv 61 (zd 3 4),zn (.st 1 (.sl 5) (.t 61) (.t 59)),zm 7 60]
def q99:IC:=zr [zv 62 (zl 5 3),zm 63 7,zn (.st 5 zN (.t 4) (.t 62)),zm 5 63]
def k0cw:IC:=(.seq qbmy (.seq qbrs (.seq (.seq qbok (.cond (.t 17) (.seq qbk7 .ret) .skip)) (.seq qbik (.seq (.seq qboa (.cond (.t 25) (.seq qbne .ret) .skip)) (.seq qbs7 (.seq qbgw (.seq (.seq qbop (.cond (.t 35) (.seq qbba (.seq qbaz (.cond (.t 39) (.seq qbb3 .ret) .skip))) .skip)) (.seq qbdc (.seq (.seq qbbf (.cond (.t 49) (.seq qbcp .ret) .skip)) (.seq qbaa (.seq q99 .ret))))))))))))
@[go_sem] def s0cw:List (RV×Co):=[(.c true 5 4,zN),(.t 5,.id)]
theorem c0cw:cFun Try.prog 28 = some (64,k0cw,s0cw):=by kernel_rfl

def qbzs:IC:=zr [zi 2 zaN,zv 3 zf]
def qbzf:IC:=zr [zm 9 0,zi 10 (zk 35 [zI 9,((zc 1),.id)]),zm 8 10,zv 11 (zx 8 0),zv 12 (zx 8 1),zi 4 zaT,zn (.st 4 .id (.t 4) (.t 11)),zm 5 12]
def qbyo:IC:=zr [zm 13 5,zv 14 (.un .not (.t 13))]
def qbun:IC:=zr [zv 15 (.bld [(.int .i64 0),(.int .i64 0),(.int .i64 0),(.str []),.nils] []),zn (.st 5 zN (.t 2) (.t 15)),zv 3 zf]
def qb10:IC:=zr [zv 16 (zd 4 1),zv 17 (zg 1 16),zv 18 (zd 4 3),zv 19 (zg 1 18),zv 20 (.bld [(.int .i64 0),(.int .i64 0),(.int .i64 0),(.str []),.nils] [(0,1,(zc 31)),(1,1,(.t 17)),(3,1,(.t 19))]),zi 6 zaN,zn (.st 5 zN (.t 6) (.t 20))]
def qbux:IC:=zr [zi 7 zaN]
def qb02:IC:=zr [zm 21 0,zi 22 (zk 26 [zI 21,((.c (.str [58,58])),.id)])]
def qbuv:IC:=zr [zv 23 (zd 6 0),zn (.st 1 .id (.t 23) (zc 32))]
def qbyg:IC:=zr [zm 25 0,zi 26 (zk 45 [zI 25]),zm 24 26,zv 27 (zx 24 0),zv 28 (zx 24 1),zn (.st 5 zN (.t 7) (.t 27)),zm 5 28]
def qb03:IC:=zr [zm 30 0,zi 31 (zk 46 [zI 30,((.c (.str [61])),.id)]),zm 29 31,zv 32 (zx 29 0),zv 33 (zx 29 1),zn (.st 5 zN (.t 7) (.t 32)),zm 5 33]
def qbkv:IC:=zr [zm 34 5,zv 35 (.un .not (.t 34))]
def qbjt:IC:=zr [zv 36 (.bld [(.int .i64 0),(.int .i64 0),(.int .i64 0),(.str []),.nils] []),zn (.st 5 zN (.t 2) (.t 36)),zv 3 zf]
def qboj:IC:=zr [zv 37 (zl 5 7),zv 38 (.bsl 5 [zA 37]),zv 39 (zd 6 4),zn (.st 1 (.sl 5) (.t 39) (.t 38))]
def qbga:IC:=zr [zv 40 (zl 5 6),zn (.st 5 zN (.t 2) (.t 40)),zv 3 (.mov (.c (.bool true)))]
def k0k:IC:=(.seq qbzs (.seq qbzf (.seq (.seq qbyo (.cond (.t 14) (.seq qbun .ret) .skip)) (.seq qb10 (.seq qbux (.seq (.seq qb02 (.cond (.t 22) (.seq qbuv qbyg) qb03)) (.seq (.seq qbkv (.cond (.t 35) (.seq qbjt .ret) .skip)) (.seq qboj (.seq qbga .ret)))))))))
@[go_sem] def s0k:List (RV×Co):=[(.c true 5 2,zN),(.t 3,.id)]
theorem c0k:cFun Try.prog 29 = some (41,k0k,s0k):=by kernel_rfl

def qblr:IC:=zr [zv 2 zf]
def qbmd:IC:=zr [zm 3 0,zv 4 (.bin .eql .ptr (.t 3) (.c .nilp)),zm 5 4,zw 5 false 6 (zo 0),zw 5 false 7 (.nck (.t 6)),zw 5 false 8 (zd 7 7),zw 5 false 9 (zg 1 8),zw 5 false 10 (.bin .neq .no (.t 9) (zc 0)),zv 11 (.pick (.t 5) (.c (.bool true)) (.t 10)),zm 2 11]
def k0bc:IC:=(.seq qblr (.seq qbmd .ret))
@[go_sem] def s0bc:List (RV×Co):=[(.t 2,.id)]
theorem c0bc:cFun Try.prog 30 = some (12,k0bc,s0bc):=by kernel_rfl

def qblg:IC:=zr [zi 1 (.box (.t 0)),zv 2 (.mov (.c .nilf))]
def qblq:IC:=zr [zv 3 (.mfn 47 [] [(.t 1)]),zm 2 3]
def k0bn:IC:=(.seq qblg (.seq qblq .ret))
@[go_sem] def s0bn:List (RV×Co):=[(.t 2,.id)]
theorem c0bn:cFun Try.prog 31 = some (4,k0bn,s0bn):=by kernel_rfl

def qbll:IC:=zr [zi 2 (.box (.t 0)),zi 3 (.box (.t 1)),zv 4 (.mov (.c .nilf))]
def qboy:IC:=zr [zv 5 (.mfn 50 [] [(.t 2),(.t 3)]),zm 4 5]
def k0ck:IC:=(.seq qbll (.seq qboy .ret))
@[go_sem] def s0ck:List (RV×Co):=[(.t 4,.id)]
theorem c0ck:cFun Try.prog 32 = some (6,k0ck,s0ck):=by kernel_rfl

def qbif:IC:=zr [zv 4 zf]
def qbiv:IC:=zr [zm 5 0,zi 6 (zk 30 [zI 5]),zv 7 (.un .not (.t 6)),zm 8 7,zw 8 true 9 (zo 0),zj 8 true 10 (zk 19 [zI 9]),zw 8 true 11 (zo 1),zw 8 true 12 (.bsl 1 [zI 11]),zj 8 true 13 (zk 52 [zI 10,((.t 12),(.sl 1))]),zv 14 (.pick (.t 8) (.t 13) (.c (.bool false))),zm 4 14]
def k0bg:IC:=(.seq qbif (.seq qbiv .ret))
@[go_sem] def s0bg:List (RV×Co):=[(.t 4,.id)]
theorem c0bg:cFun Try.prog 33 = some (15,k0bg,s0bg):=by kernel_rfl

def qbsz:IC:=zr [zi 2 zaT]
def qbt2:IC:=zr [zm 4 0,zi 5 (zk 19 [zI 4]),zi 3 zaT,zn (.st 4 .id (.t 3) (.t 5))]
def qbtc:IC:=.drw [zp (zm 6 0),(zi 7 (zk 30 [zI 6]),[]),zp (zv 8 (.un .not (.t 7))),zp (zm 9 8),zp (zw 9 true 10 (zo 0)),zp (zw 9 true 11 (.nck (.t 10))),zp (zw 9 true 12 (zd 11 5)),zp (zw 9 true 13 (zg 1 12)),zp (zw 9 true 14 (zo 0)),zp (zw 9 true 15 (.nck (.t 14))),zp (zw 9 true 16 (zd 15 0)),zp (zw 9 true 17 (zg 1 16)),zp (zw 9 true 18 (.len false (.t 17))),zp (zw 9 true 19 (.bin .lss .no (.t 13) (.t 18))),zp (zv 20 (.pick (.t 9) (.t 19) (.c (.bool false))))]
def qbkr:IC:=zr [zm 21 0,zv 22 (.nck (.t 21)),zv 23 (zd 22 5),zv 24 (zg 1 23),zv 25 (.bin .add .no (.t 24) (zc 1)),zv 26 (.nck (.t 21)),zv 27 (zd 26 5),zn (.st 1 .id (.t 27) (.t 25))]
def qbnf:IC:=zr [zv 28 (zl 4 3),zn (.st 4 .id (.t 2) (.t 28))]
def k0bf:IC:=(.seq qbsz (.seq qbt2 (.seq (.seq qbtc (.cond (.t 20) qbkr .skip)) (.seq qbnf .ret))))
@[go_sem] def s0bf:List (RV×Co):=[(.c true 4 2,.id)]
theorem c0bf:cFun Try.prog 34 = some (29,k0bf,s0bf):=by kernel_rfl

def qbf9:IC:=zr [zi 4 zaT,zv 5 zf]
def qbm0:IC:=zr [zm 6 0,zi 7 (zk 30 [zI 6]),zm 8 7,zw 8 false 9 (zo 0),zj 8 false 10 (zk 19 [zI 9]),zw 8 false 11 (.fld false 1 0 (.t 10)),zw 8 false 12 (zo 1),zw 8 false 13 (.bin .neq .no (.t 11) (.t 12)),zv 14 (.pick (.t 8) (.c (.bool true)) (.t 13))]
def qbgh:IC:=zr [zv 15 (.bld [(.int .i64 0),(.int .i64 0),(.int .i64 0),(.str [])] []),zm 16 0,zi 17 (zk 43 [zI 16,((zc 5),.id)]),zn (.st 4 .id (.t 4) (.t 15)),zm 5 17]
def qbg2:IC:=zr [zm 18 0,zi 19 (zk 34 [zI 18]),zn (.st 4 .id (.t 4) (.t 19)),zv 5 (.mov (.c (.bool true)))]
def k0cm:IC:=(.seq qbf9 (.seq (.seq qbm0 (.cond (.t 14) (.seq qbgh .ret) .skip)) (.seq qbg2 .ret)))
@[go_sem] def s0cm:List (RV×Co):=[(.c true 4 4,.id),(.t 5,.id)]
theorem c0cm:cFun Try.prog 35 = some (20,k0cm,s0cm):=by kernel_rfl

def qbmo:IC:=zr [zi 1 zaN,zv 2 zf]
def qbnr:IC:=zr [zv 3 (zg 1 0),zi 4 (zk 37 [zI 3]),zv 5 (zx 4 0),zv 6 (zx 4 1),zn (.st 5 zN (.t 1) (.t 5)),zm 2 6]
def k0di:IC:=(.seq qbmo (.seq qbnr .ret))
@[go_sem] def s0di:List (RV×Co):=[(.c true 5 1,zN),(.t 2,.id)]
theorem c0di:cFun Try.prog 36 = some (7,k0di,s0di):=by kernel_rfl

def qb0z:IC:=zr [zi 2 zaN,zv 3 zf]
def qb16:IC:=zr [zm 7 0,zi 8 (zk 19 [zI 7]),zi 4 zaT,zn (.st 4 .id (.t 4) (.t 8))]
def qb1j:IC:=zr [zv 10 (zd 4 0),zv 11 (zg 1 10),zv 12 (zq (.t 11) (zc 1)),zm 9 12]
def qbzj:IC:=zr [zm 13 0,zi 14 (zk 34 [zI 13])]
def qbyr:IC:=zr [zv 15 (zd 4 1),zv 16 (zg 1 15),zv 17 (zd 4 3),zv 18 (zg 1 17),zv 19 (.bld [(.int .i64 0),(.int .i64 0),(.int .i64 0),(.str []),.nils] [(0,1,(zc 1)),(1,1,(.t 16)),(3,1,(.t 18))]),zn (.st 5 zN (.t 2) (.t 19)),zv 3 (.mov (.c (.bool true)))]
def qbyj:IC:=zr [zv 21 (zd 4 0),zv 22 (zg 1 21),zv 23 (zq (.t 22) (zc 2)),zm 20 23]
def qb04:IC:=zr [zm 24 0,zi 25 (zk 34 [zI 24])]
def qbt7:IC:=zr [zv 26 (zd 4 1),zv 27 (zg 1 26),zv 28 (zd 4 3),zv 29 (zg 1 28),zv 30 (.bld [(.int .i64 0),(.int .i64 0),(.int .i64 0),(.str []),.nils] [(0,1,(zc 2)),(1,1,(.t 27)),(3,1,(.t 29))]),zn (.st 5 zN (.t 2) (.t 30)),zv 3 (.mov (.c (.bool true)))]
def qbyb:IC:=zr [zm 32 0,zi 33 (zk 33 [zI 32,((.c (.str [40])),.id)]),zv 34 (.un .not (.t 33)),zm 31 34]
def qbx7:IC:=zr [zv 35 (.bld [(.int .i64 0),(.int .i64 0),(.int .i64 0),(.str []),.nils] []),zm 36 0,zi 37 (zk 43 [zI 36,((zc 5),.id)]),zn (.st 5 zN (.t 2) (.t 35)),zm 3 37]
def qbmc:IC:=zr [zm 38 0,zi 39 (zk 53 [zI 38]),zv 40 (.un .not (.t 39))]
def qbt0:IC:=zr [zv 41 (.bld [(.int .i64 0),(.int .i64 0),(.int .i64 0),(.str []),.nils] []),zn (.st 5 zN (.t 2) (.t 41)),zv 3 zf]
def qbmv:IC:=zr [zm 42 0,zi 43 (zk 34 [zI 42])]
def qbs5:IC:=zr [zm 45 0,zi 46 (zk 54 [zI 45]),zm 44 46,zv 47 (zx 44 0),zv 48 (zx 44 1),zi 5 zaN,zn (.st 5 zN (.t 5) (.t 47)),zm 6 48]
def qbro:IC:=zr [zm 49 6,zm 50 49,zw 50 true 51 (zo 0),zj 50 true 52 (zk 39 [zI 51,((.c (.str [41])),.id)]),zv 53 (.pick (.t 50) (.t 52) (.c (.bool false))),zm 6 53]
def qbhk:IC:=zr [zm 54 0,zi 55 (zk 55 [zI 54])]
def qbqq:IC:=zr [zm 56 0,zv 57 (zl 5 5),zm 58 6,zi 59 (zk 56 [zI 56,zA 57,zI 58]),zv 60 (zx 59 0),zv 61 (zx 59 1),zn (.st 5 zN (.t 2) (.t 60)),zm 3 61]
def k0y:IC:=(.seq qb0z (.seq (.seq qb16 (.block 0 (.seq qb1j (.cond (.t 9) (.seq qbzj (.seq qbyr .ret)) (.seq qbyj (.cond (.t 20) (.seq qb04 (.seq qbt7 .ret)) (.seq qbyb (.cond (.t 31) (.seq qbx7 .ret) .skip)))))))) (.seq (.seq qbmc (.cond (.t 40) (.seq qbt0 .ret) .skip)) (.seq qbmv (.seq qbs5 (.seq qbro (.seq qbhk (.seq qbqq .ret))))))))
@[go_sem] def s0y:List (RV×Co):=[(.c true 5 2,zN),(.t 3,.id)]
theorem c0y:cFun Try.prog 37 = some (62,k0y,s0y):=by kernel_rfl

def qbpx:IC:=zr [zv 1 zf]
def qbnw:IC:=zr [zv 2 (zg 1 0),zi 3 (zk 19 [zI 2]),zv 4 (.fld false 1 0 (.t 3)),zv 5 (zq (.t 4) (zc 1)),zm 1 5]
def k0dj:IC:=(.seq qbpx (.seq qbnw .ret))
@[go_sem] def s0dj:List (RV×Co):=[(.t 1,.id)]
theorem c0dj:cFun Try.prog 38 = some (6,k0dj,s0dj):=by kernel_rfl

def qbo4:IC:=zr [zv 4 zf]
def qbp5:IC:=zr [zm 5 0,zm 6 1,zi 7 (zk 26 [zI 5,zI 6]),zm 8 7,zw 8 false 9 (zo 0),zj 8 false 10 (zk 43 [zI 9,((zc 5),.id)]),zv 11 (.pick (.t 8) (.c (.bool true)) (.t 10)),zm 4 11]
def k0bj:IC:=(.seq qbo4 (.seq qbp5 .ret))
@[go_sem] def s0bj:List (RV×Co):=[(.t 4,.id)]
theorem c0bj:cFun Try.prog 39 = some (12,k0bj,s0bj):=by kernel_rfl

def qbkq:IC:=zr [zi 1 zaN,zv 2 zf]
def qbhu:IC:=zr [zv 3 (zg 1 0),zi 4 (zk 41 [zI 3]),zv 5 (zx 4 0),zv 6 (zx 4 1),zn (.st 5 zN (.t 1) (.t 5)),zm 2 6]
def k0db:IC:=(.seq qbkq (.seq qbhu .ret))
@[go_sem] def s0db:List (RV×Co):=[(.c true 5 1,zN),(.t 2,.id)]
theorem c0db:cFun Try.prog 40 = some (7,k0db,s0db):=by kernel_rfl

def qbg4:IC:=zr [zi 1 (.box (.t 0)),zi 2 zaN,zv 3 zf]
def qbgp:IC:=zr [zv 8 (zg 1 1),zi 9 (zk 35 [zI 8,((zc 2),.id)]),zm 7 9,zv 10 (zx 7 0),zv 11 (zx 7 1),zi 4 zaT,zn (.st 4 .id (.t 4) (.t 10)),zm 5 11]
def qbhp:IC:=zr [zm 12 5,zv 13 (.un .not (.t 12))]
def qbi3:IC:=zr [zv 14 (.bld [(.int .i64 0),(.int .i64 0),(.int .i64 0),(.str []),.nils] []),zn (.st 5 zN (.t 2) (.t 14)),zv 3 zf]
def qbts:IC:=zr [zv 15 (zd 4 1),zv 16 (zg 1 15),zv 17 (zd 4 3),zv 18 (zg 1 17),zv 19 (.bld [(.int .i64 0),(.int .i64 0),(.int .i64 0),(.str []),.nils] [(0,1,(zc 34)),(1,1,(.t 16)),(3,1,(.t 18))]),zi 6 zaN,zn (.st 5 zN (.t 6) (.t 19))]
def qbsu:IC:=zr [zv 21 (.mfn 57 [] [(.t 1)]),zv 22 (.mfn 58 [] [(.t 1)]),zi 23 (zk 15 [((.c .nils),(.sl 5)),zI 21,zI 22]),zm 20 23,zv 24 (zx 20 0),zv 25 (zx 20 1),zv 26 (zd 6 4),zn (.st 1 (.sl 5) (.t 26) (.t 24)),zm 5 25]
def qbhe:IC:=zr [zv 27 (zl 5 6),zm 28 5,zn (.st 5 zN (.t 2) (.t 27)),zm 3 28]
def k0dk:IC:=(.seq qbg4 (.seq qbgp (.seq (.seq qbhp (.cond (.t 13) (.seq qbi3 .ret) .skip)) (.seq qbts (.seq qbsu (.seq qbhe .ret))))))
@[go_sem] def s0dk:List (RV×Co):=[(.c true 5 2,zN),(.t 3,.id)]
theorem c0dk:cFun Try.prog 41 = some (29,k0dk,s0dk):=by kernel_rfl

def qby1:IC:=zr [zv 2 (.mov (.c .nils)),zv 3 zf]
def qb0f:IC:=zr [zm 9 0,zi 10 (zk 60 [zI 9,((.c (.str [61,62])),.id)]),zv 11 (.un .not (.t 10))]
def qbxz:IC:=zr [zm 12 0,zi 13 (zk 61 [zI 12]),zv 14 (.un .not (.t 13)),zv 2 (.mov (.c .nils)),zm 3 14]
def qbzh:IC:=zr [zv 4 (.mov (.c .nils))]
def qb1m:IC:=zr [zm 15 0,zi 16 (zk 26 [zI 15,((.c (.str [40])),.id)]),zm 5 16]
def qb0j:IC:=zr [zm 17 5,zv 18 (.un .not (.t 17)),zm 19 18,zw 19 false 20 (zo 0),zj 19 false 21 (zk 33 [zI 20,((.c (.str [41])),.id)]),zw 19 false 22 (.un .not (.t 21)),zv 23 (.pick (.t 19) (.c (.bool true)) (.t 22)),zm 6 23]
def qbwu:IC:=zr [zm 24 6]
def qbuy:IC:=zr [zm 26 0,zi 27 (zk 62 [zI 26]),zm 25 27,zv 28 (zx 25 0),zv 29 (zx 25 1),zi 7 zaN,zn (.st 5 zN (.t 7) (.t 28)),zm 8 29]
def qbvo:IC:=zr [zm 30 8,zv 31 (.un .not (.t 30))]
def qbrk:IC:=zr [zv 2 (.mov (.c .nils)),zv 3 zf]
def qbs1:IC:=zr [zm 32 4,zv 33 (zl 5 7),zv 34 (.bsl 5 [zA 33]),zi 35 (.app 5 zZ 64 (.sl 5) (.t 32) (.t 34)),zm 4 35]
def qbh7:IC:=zr [zm 36 5,zm 37 36,zw 37 true 38 (zo 0),zj 37 true 39 (zk 26 [zI 38,((.c (.str [44])),.id)]),zv 40 (.pick (.t 37) (.t 39) (.c (.bool false))),zm 6 40]
def qbwf:IC:=(.seq (.seq qbwu (.cond (.t 24) .skip (.exit 0))) (.block 1 (.seq qbuy (.seq (.seq qbvo (.cond (.t 31) (.seq qbrk .ret) .skip)) (.seq qbs1 qbh7)))))
def qbge:IC:=zr [zm 41 5,zm 42 41,zw 42 true 43 (zo 0),zj 42 true 44 (zk 39 [zI 43,((.c (.str [41])),.id)]),zw 42 true 45 (.un .not (.t 44)),zv 46 (.pick (.t 42) (.t 45) (.c (.bool false))),zm 47 46,zw 47 false 48 (zo 0),zj 47 false 49 (zk 39 [zI 48,((.c (.str [61,62])),.id)]),zw 47 false 50 (.un .not (.t 49)),zv 51 (.pick (.t 47) (.c (.bool true)) (.t 50))]
def qbox:IC:=zr [zv 2 (.mov (.c .nils)),zv 3 zf]
def qbgg:IC:=zr [zm 52 4,zm 2 52,zv 3 (.mov (.c (.bool true)))]
def k0t:IC:=(.seq qby1 (.seq (.seq qb0f (.cond (.t 11) (.seq qbxz .ret) .skip)) (.seq qbzh (.seq qb1m (.seq (.seq qb0j (.block 0 (.loop qbwf))) (.seq (.seq qbge (.cond (.t 51) (.seq qbox .ret) .skip)) (.seq qbgg .ret)))))))
@[go_sem] def s0t:List (RV×Co):=[(.t 2,(.sl 5)),(.t 3,.id)]
theorem c0t:cFun Try.prog 42 = some (53,k0t,s0t):=by kernel_rfl

def qbt1:IC:=zr [zv 4 zf]
def qbjy:IC:=zr [zm 5 0,zi 6 (zk 30 [zI 5]),zv 7 (.un .not (.t 6))]
def qbsi:IC:=zr [zm 8 1,zv 9 (zq (.t 8) (zc 0))]
def qbhq:IC:=zr [zv 1 (.mov (zc 1))]
def qbje:IC:=zr [zm 10 0,zm 11 0,zi 12 (zk 19 [zI 11]),zv 13 (.fld false 1 1 (.t 12)),zv 14 (.nck (.t 10)),zv 15 (zd 14 8),zn (.st 1 .id (.t 15) (.t 13))]
def qbrb:IC:=zr [zm 16 0,zm 17 1,zv 18 (.nck (.t 16)),zv 19 (zd 18 7),zn (.st 1 .id (.t 19) (.t 17))]
def qbm2:IC:=zr [zv 4 zf]
def k0bh:IC:=(.seq qbt1 (.seq (.seq qbjy (.cond (.t 7) (.seq (.seq qbsi (.cond (.t 9) qbhq .skip)) (.seq qbje qbrb)) .skip)) (.seq qbm2 .ret)))
@[go_sem] def s0bh:List (RV×Co):=[(.t 4,.id)]
theorem c0bh:cFun Try.prog 43 = some (20,k0bh,s0bh):=by kernel_rfl

def qbsr:IC:=zr [zi 3 (.box (.t 0)),zi 5 (.box (.t 2)),zv 6 (.mov (.c .nils)),zv 7 zf]
def qbq5:IC:=zr [zv 10 (zg 1 3),zi 11 (zk 39 [zI 10,((.c (.str [119,104,101,114,101])),.id)]),zv 12 (.un .not (.t 11)),zm 13 12,zw 13 false 14 (zg 1 3),zj 13 false 15 (zk 39 [zI 14,((.c (.str [123])),.id)]),zw 13 false 16 (.un .not (.t 15)),zv 17 (.pick (.t 13) (.c (.bool true)) (.t 16))]
def qbrl:IC:=zr [zm 18 1,zm 6 18,zv 7 zf]
def qbpi:IC:=zr [zv 19 (zg 1 3),zi 20 (zk 14 [zI 19,((.c (.str [59])),.id)]),zi 8 (.alo [.nilf]),zn (.st 1 .id (.t 8) (.t 20))]
def qbno:IC:=zr [zm 22 1,zv 23 (.mfn 63 [] [(.t 3),(.t 5)]),zv 24 (.mfn 65 [] [(.t 3),(.t 8)]),zi 25 (zk 15 [((.t 22),(.sl 5)),zI 23,zI 24]),zm 21 25,zv 26 (zx 21 0),zv 27 (zx 21 1),zm 1 26,zm 9 27]
def q4t:IC:=zr [zm 28 1,zm 29 9,zm 30 29,zw 30 true 31 (zg 1 3),zj 30 true 32 (zk 39 [zI 31,((.c (.str [125])),.id)]),zv 33 (.pick (.t 30) (.t 32) (.c (.bool false))),zm 6 28,zm 7 33]
def k0da:IC:=(.seq qbsr (.seq (.seq qbq5 (.cond (.t 17) (.seq qbrl .ret) .skip)) (.seq qbpi (.seq qbno (.seq q4t .ret)))))
@[go_sem] def s0da:List (RV×Co):=[(.t 6,(.sl 5)),(.t 7,.id)]
theorem c0da:cFun Try.prog 44 = some (34,k0da,s0da):=by kernel_rfl

def qbyx:IC:=zr [zi 2 zaN,zv 3 zf]
def qbzq:IC:=zr [zm 8 0,zi 9 (zk 19 [zI 8]),zv 10 (.fld false 1 1 (.t 9)),zv 11 (.bld [(.int .i64 0),(.int .i64 0),(.int .i64 0),(.str []),.nils] [(0,1,(zc 4)),(1,1,(.t 10))]),zi 4 zaN,zn (.st 5 zN (.t 4) (.t 11))]
def qbyp:IC:=zr [zm 13 0,zi 14 (zk 42 [zI 13]),zm 12 14,zv 15 (zx 12 0),zv 16 (zx 12 1),zm 5 15,zm 6 16]
def qbvn:IC:=zr [zm 17 6,zv 18 (.un .not (.t 17))]
def qby9:IC:=zr [zv 19 (.bld [(.int .i64 0),(.int .i64 0),(.int .i64 0),(.str []),.nils] []),zn (.st 5 zN (.t 2) (.t 19)),zv 3 zf]
def qbzo:IC:=zr [zm 21 0,zi 22 (zk 54 [zI 21]),zm 20 22,zv 23 (zx 20 0),zv 24 (zx 20 1),zi 7 zaN,zn (.st 5 zN (.t 7) (.t 23)),zm 6 24]
def qbuc:IC:=zr [zm 25 5,zv 26 (zl 5 7),zv 27 (.bsl 5 [zA 26]),zi 28 (.app 5 zZ 64 (.sl 5) (.t 25) (.t 27)),zv 29 (zd 4 4),zn (.st 1 (.sl 5) (.t 29) (.t 28))]
def qbt3:IC:=zr [zm 30 0,zv 31 (zl 5 4),zm 32 6,zi 33 (zk 56 [zI 30,zA 31,zI 32]),zv 34 (zx 33 0),zv 35 (zx 33 1),zn (.st 5 zN (.t 2) (.t 34)),zm 3 35]
def k0s:IC:=(.seq qbyx (.seq qbzq (.seq qbyp (.seq (.seq qbvn (.cond (.t 18) (.seq qby9 .ret) .skip)) (.seq qbzo (.seq qbuc (.seq qbt3 .ret)))))))
@[go_sem] def s0s:List (RV×Co):=[(.c true 5 2,zN),(.t 3,.id)]
theorem c0s:cFun Try.prog 45 = some (36,k0s,s0s):=by kernel_rfl

def qbym:IC:=zr [zi 4 zaN,zv 5 zf]
def qb11:IC:=zr [zm 9 0,zi 10 (zk 19 [zI 9]),zv 11 (.fld false 1 0 (.t 10)),zv 12 (.bin .neq .no (.t 11) (zc 1))]
def qbwe:IC:=zr [zm 13 0,zm 14 1,zi 15 (zk 39 [zI 13,zI 14]),zv 16 (.un .not (.t 15))]
def qbu2:IC:=zr [zv 17 (.bld [(.int .i64 0),(.int .i64 0),(.int .i64 0),(.str []),.nils] []),zn (.st 5 zN (.t 4) (.t 17)),zv 5 zf]
def qbyz:IC:=zr [zm 18 0,zi 19 (zk 66 [zI 18]),zv 20 (zx 19 0),zv 21 (zx 19 1),zn (.st 5 zN (.t 4) (.t 20)),zm 5 21]
def qby7:IC:=zr [zm 22 0,zi 23 (zk 34 [zI 22]),zi 6 zaT,zn (.st 4 .id (.t 6) (.t 23))]
def qbv9:IC:=zr [zm 25 0,zm 26 1,zi 27 (zk 46 [zI 25,zI 26]),zm 24 27,zv 28 (zx 24 0),zv 29 (zx 24 1),zi 7 zaN,zn (.st 5 zN (.t 7) (.t 28)),zm 8 29]
def qb0d:IC:=zr [zv 30 (zd 6 1),zv 31 (zg 1 30),zv 32 (zd 6 3),zv 33 (zg 1 32),zv 34 (zl 5 7),zv 35 (.bsl 5 [zA 34]),zv 36 (.bld [(.int .i64 0),(.int .i64 0),(.int .i64 0),(.str []),.nils] [(0,1,(zc 25)),(1,1,(.t 31)),(3,1,(.t 33)),(4,1,(.t 35))]),zm 37 8,zn (.st 5 zN (.t 4) (.t 36)),zm 5 37]
def k0j:IC:=(.seq qbym (.seq (.seq qb11 (.cond (.t 12) (.seq (.seq qbwe (.cond (.t 16) (.seq qbu2 .ret) .skip)) (.seq qbyz .ret)) .skip)) (.seq qby7 (.seq qbv9 (.seq qb0d .ret)))))
@[go_sem] def s0j:List (RV×Co):=[(.c true 5 4,zN),(.t 5,.id)]
theorem c0j:cFun Try.prog 46 = some (38,k0j,s0j):=by kernel_rfl

def qbr8:IC:=zr [zv 6 (zg 1 1),zi 7 (zk 48 [zI 6]),zm 3 7]
def qblv:IC:=zr [zm 8 3,zv 9 (zg 1 1),zv 10 (.len true (.t 9)),zv 11 (.bin .lss .no (.t 8) (.t 10))]
def qbjs:IC:=zr [zv 13 (zg 1 1),zm 14 3,zv 15 (.sls (.t 13) (some (.t 14)) none),zi 16 (zk 49 [zI 15]),zm 12 16,zv 17 (zx 12 0),zv 18 (zx 12 1),zi 4 zaT,zn (.st 4 .id (.t 4) (.t 17)),zm 5 18]
def qbof:IC:=zr [zm 19 3,zv 20 (zd 4 1),zn (.st 1 .id (.t 20) (.t 19))]
def qbn0:IC:=zr [zm 21 0,zv 22 (zl 4 4),zm 23 5,zi 24 (.call (.t 21) [zI 22,zI 23]),zv 25 (.un .not (.t 24))]
def qbq3:IC:=zr [zm 26 3,zv 27 (zd 4 3),zv 28 (zg 1 27),zv 29 (.len true (.t 28)),zv 30 (.bin .add .no (.t 26) (.t 29)),zm 3 30]
def qbr3:IC:=zr [zm 31 3,zv 32 (zg 1 1),zm 33 3,zv 34 (.sls (.t 32) (some (.t 33)) none),zi 35 (zk 48 [zI 34]),zv 36 (.bin .add .no (.t 31) (.t 35)),zm 3 36]
def qbn5:IC:=(.seq (.seq qblv (.cond (.t 11) .skip (.exit 0))) (.block 1 (.seq qbjs (.seq qbof (.seq (.seq qbn0 (.cond (.t 25) .ret .skip)) (.seq qbq3 qbr3))))))
def k0bp:IC:=(.seq qbr8 (.block 0 (.loop qbn5)))
@[go_sem] def s0bp:List (RV×Co):=[]
theorem c0bp:cFun Try.prog 47 = some (37,k0bp,s0bp):=by kernel_rfl

def qbln:IC:=zr [zv 2 (.mov (zc 0))]
def qbq8:IC:=zr [zv 3 (.mov (zc 0))]
def qblf:IC:=zr [zm 5 0,zm 6 3,zv 7 (.sls (.t 5) (some (.t 6)) none),zi 8 (zk 67 [zI 7,((.c (.fn 68 [] [])),.id)]),zm 4 8]
def qbk2:IC:=zr [zm 9 0,zm 10 3,zm 11 4,zv 12 (.bin .add .no (.t 10) (.t 11)),zv 13 (.sls (.t 9) (some (.t 12)) none),zi 14 (zk 69 [zI 13,((.c (.str [45,45])),.id)])]
def qbgx:IC:=zr [zm 15 4,zm 16 0,zm 17 3,zm 18 4,zv 19 (.bin .add .no (.t 17) (.t 18)),zv 20 (.sls (.t 16) (some (.t 19)) none),zi 21 (zk 67 [zI 20,((.c (.fn 70 [] [])),.id)]),zv 22 (.bin .add .no (.t 15) (.t 21)),zm 4 22]
def qbna:IC:=zr [zm 23 4,zv 24 (zq (.t 23) (zc 0))]
def qbnz:IC:=zr [zm 25 3,zm 2 25]
def qbnh:IC:=zr [zm 26 3,zm 27 4,zv 28 (.bin .add .no (.t 26) (.t 27)),zm 3 28]
def qboq:IC:=(.block 1 (.seq qblf (.seq (.seq qbk2 (.cond (.t 14) qbgx .skip)) (.seq (.seq qbna (.cond (.t 24) (.seq qbnz .ret) .skip)) qbnh))))
def k0ca:IC:=(.seq qbln (.seq qbq8 (.block 0 (.loop qboq))))
@[go_sem] def s0ca:List (RV×Co):=[(.t 2,.id)]
theorem c0ca:cFun Try.prog 48 = some (29,k0ca,s0ca):=by kernel_rfl

def qbin:IC:=zr [zi 2 zaT,zv 3 (.mov (zc 0))]
def qbie:IC:=zr [zm 9 0,zv 10 (.idx (.t 9) (zc 0)),zm 4 10]
def qbid:IC:=zr [zm 12 4,zi 13 (zk 71 [zI 12]),zm 11 13]
def qbrw:IC:=zr [zm 14 0,zm 15 0,zi 16 (zk 67 [zI 15,((.c (.fn 71 [] [])),.id)]),zv 17 (.sls (.t 14) none (some (.t 16))),zm 5 17]
def qbk6:IC:=zr [zm 19 5,zi 20 (zk 72 [zI 19]),zm 18 20,zv 21 (zx 18 0),zv 22 (zx 18 1),zm 6 21,zm 7 22]
def qbqd:IC:=zr [zm 23 6,zm 24 5,zv 25 (.bld [(.int .i64 0),(.int .i64 0),(.int .i64 0),(.str [])] [(0,1,(zc 3)),(2,1,(.t 23)),(3,1,(.t 24))]),zm 26 7,zn (.st 4 .id (.t 2) (.t 25)),zm 3 26]
def qbtj:IC:=zr [zm 28 4,zi 29 (zk 73 [zI 28]),zm 30 29,zw 30 true 31 (zo 4),zw 30 true 32 (.bin .neq .no (.t 31) (.c (.int .u8 39))),zv 33 (.pick (.t 30) (.t 32) (.c (.bool false))),zm 27 33]
def qbh4:IC:=zr [zm 34 0,zm 35 0,zi 36 (zk 67 [zI 35,((.c (.fn 73 [] [])),.id)]),zv 37 (.sls (.t 34) none (some (.t 36))),zi 38 (zk 74 [zI 37]),zn (.st 4 .id (.t 2) (.t 38)),zv 3 (.mov (zc 0))]
def qbi8:IC:=zr [zm 39 0,zi 40 (zk 75 [zI 39]),zm 8 40]
def qbr7:IC:=zr [zm 41 8,zv 42 (zq (.t 41) (zc 0))]
def qbby:IC:=zr [zv 43 (.bld [(.int .i64 0),(.int .i64 0),(.int .i64 0),(.str [])] []),zn (.st 4 .id (.t 2) (.t 43)),zv 3 (.mov (zc 3))]
def qbb9:IC:=zr [zm 44 0,zm 45 8,zv 46 (.sls (.t 44) none (some (.t 45))),zv 47 (.bld [(.int .i64 0),(.int .i64 0),(.int .i64 0),(.str [])] [(0,1,(zc 5)),(3,1,(.t 46))]),zn (.st 4 .id (.t 2) (.t 47)),zv 3 (.mov (zc 0))]
def k0bs:IC:=(.seq qbin (.seq (.seq qbie (.block 0 (.seq qbid (.cond (.t 11) (.seq qbrw (.seq qbk6 (.seq qbqd .ret))) (.seq qbtj (.cond (.t 27) (.seq qbh4 .ret) .skip)))))) (.seq qbi8 (.seq (.seq qbr7 (.cond (.t 42) (.seq qbby .ret) .skip)) (.seq qbb9 .ret)))))
@[go_sem] def s0bs:List (RV×Co):=[(.c true 4 2,.id),(.t 3,.id)]
theorem c0bs:cFun Try.prog 49 = some (48,k0bs,s0bs):=by kernel_rfl

def qbsp:IC:=zr [zv 4 (zl 5 1),zv 5 (zg 1 2),zm 6 0,zi 7 (zk 51 [zA 4,zI 5,zI 6])]
def k0cj:IC:=qbsp
@[go_sem] def s0cj:List (RV×Co):=[]
theorem c0cj:cFun Try.prog 50 = some (8,k0cj,s0cj):=by kernel_rfl

def qbj5:IC:=zr [zi 3 (.box (.t 0)),zv 6 zf]
def qbm6:IC:=zr [zm 9 2,zm 10 1,zv 11 (zl 5 3),zi 12 (.call (.t 9) [zI 10,zA 11]),zv 13 (.un .not (.t 12))]
def qbo9:IC:=zr [zv 6 zf]
def qboz:IC:=zr [zv 14 (zd 3 4),zv 15 (zg 1 14),zv 16 (.len false (.t 15)),zv 17 (.mov (zc 0))]
def qbjr:IC:=zr [zv 18 (.bin .lss .no (.t 17) (.t 16))]
def qbkb:IC:=zr [zv 19 (.iad 5 (.t 15) (.t 17)),zv 20 (zl 5 19),zi 8 zaN,zn (.st 5 zN (.t 8) (.t 20))]
def qbkf:IC:=zr [zv 21 (zl 5 8),zm 22 1,zv 23 (.bin .add .no (.t 22) (zc 1)),zm 24 2,zi 25 (zk 51 [zA 21,zI 23,zI 24]),zv 26 (.un .not (.t 25))]
def qbre:IC:=zr [zv 6 zf]
def qbl2:IC:=zr [zv 27 (.bin .add .no (.t 17) (zc 1)),zm 17 27]
def qbi6:IC:=(.seq qbjr (.seq (.cond (.t 18) .skip (.exit 0)) (.seq (.block 1 (.seq qbkb (.seq qbkf (.cond (.t 26) (.seq qbre .ret) .skip)))) qbl2)))
def qbb7:IC:=zr [zv 6 (.mov (.c (.bool true)))]
def k0ci:IC:=(.seq qbj5 (.seq (.seq qbm6 (.cond (.t 13) (.seq qbo9 .ret) .skip)) (.seq (.seq qboz (.block 0 (.loop qbi6))) (.seq qbb7 .ret))))
@[go_sem] def s0ci:List (RV×Co):=[(.t 6,.id)]
theorem c0ci:cFun Try.prog 51 = some (28,k0ci,s0ci):=by kernel_rfl

def qbjf:IC:=zr [zi 2 (.box (.t 0)),zv 4 zf]
def qbot:IC:=zr [zv 7 (zd 2 0),zv 8 (zg 1 7),zv 9 (.bin .neq .no (.t 8) (zc 4)),zm 10 9,zw 10 true 11 (zd 2 0),zw 10 true 12 (zg 1 11),zw 10 true 13 (.bin .neq .no (.t 12) (zc 5)),zv 14 (.pick (.t 10) (.t 13) (.c (.bool false)))]
def qbi1:IC:=zr [zv 4 zf]
def qbo8:IC:=zr [zm 15 1,zv 16 (.len false (.t 15)),zv 17 (.mov (zc 0))]
def qbrj:IC:=zr [zv 18 (.bin .lss .no (.t 17) (.t 16))]
def qbrh:IC:=zr [zv 19 (.iad 1 (.t 15) (.t 17)),zv 20 (zg 1 19),zm 6 20]
def qbr4:IC:=zr [zv 21 (zd 2 3),zv 22 (zg 1 21),zm 23 6,zv 24 (zq (.t 22) (.t 23))]
def qbmw:IC:=zr [zv 4 (.mov (.c (.bool true)))]
def qblb:IC:=zr [zv 25 (.bin .add .no (.t 17) (zc 1)),zm 17 25]
def k0be_l4:IC:=(.seq qbrj (.seq (.cond (.t 18) .skip (.exit 0)) (.seq (.block 1 (.seq qbrh (.seq qbr4 (.cond (.t 24) (.seq qbmw .ret) .skip)))) qblb)))
def k0be_r11:IC:=zr [zv 4 zf]
def k0be:IC:=(.seq qbjf (.seq (.seq qbot (.cond (.t 14) (.seq qbi1 .ret) .skip)) (.seq (.seq qbo8 (.block 0 (.loop k0be_l4))) (.seq k0be_r11 .ret))))
@[go_sem] def s0be:List (RV×Co):=[(.t 4,.id)]
theorem c0be:cFun Try.prog 52 = some (26,k0be,s0be):=by kernel_rfl

def qbqj:IC:=zr [zv 2 zf]
def qbiy:IC:=zr [zm 3 0,zi 4 (zk 30 [zI 3]),zm 5 4,zw 5 false 6 (zo 0),zw 5 false 7 (.nck (.t 6)),zw 5 false 8 (zd 7 6),zw 5 false 9 (zg 1 8),zw 5 false 10 (.bin .geq .no (.t 9) (zc 200)),zv 11 (.pick (.t 5) (.c (.bool true)) (.t 10))]
def qbme:IC:=zr [zm 12 0,zi 13 (zk 43 [zI 12,((zc 2),.id)]),zm 2 13]
def qbgs:IC:=zr [zm 14 0,zv 15 (.nck (.t 14)),zv 16 (zd 15 6),zv 17 (zg 1 16),zv 18 (.bin .add .no (.t 17) (zc 1)),zv 19 (.nck (.t 14)),zv 20 (zd 19 6),zn (.st 1 .id (.t 20) (.t 18))]
def qbs2:IC:=zr [zv 2 (.mov (.c (.bool true)))]
def k0bk:IC:=(.seq qbqj (.seq (.seq qbiy (.cond (.t 11) (.seq qbme .ret) .skip)) (.seq qbgs (.seq qbs2 .ret))))
@[go_sem] def s0bk:List (RV×Co):=[(.t 2,.id)]
theorem c0bk:cFun Try.prog 53 = some (21,k0bk,s0bk):=by kernel_rfl

def qbtm:IC:=zr [zi 2 zaN,zv 3 zf]
def qbk9:IC:=zr [zm 8 0,zi 9 (zk 53 [zI 8]),zv 10 (.un .not (.t 9))]
def qbjb:IC:=zr [zv 11 (.bld [(.int .i64 0),(.int .i64 0),(.int .i64 0),(.str []),.nils] []),zn (.st 5 zN (.t 2) (.t 11)),zv 3 zf]
def qbia:IC:=zr [zm 13 0,zi 14 (zk 76 [zI 13]),zm 12 14,zv 15 (zx 12 0),zv 16 (zx 12 1),zi 4 zaN,zn (.st 5 zN (.t 4) (.t 15)),zm 5 16]
def qbpk:IC:=zr [zm 17 5,zm 18 17,zw 18 true 19 (zo 0),zj 18 true 20 (zk 26 [zI 19,((.c (.str [45,62])),.id)]),zv 21 (.pick (.t 18) (.t 20) (.c (.bool false)))]
def qbqm:IC:=zr [zm 23 0,zi 24 (zk 54 [zI 23]),zm 22 24,zv 25 (zx 22 0),zv 26 (zx 22 1),zi 6 zaN,zn (.st 5 zN (.t 6) (.t 25)),zm 7 26]
def qbn2:IC:=zr [zv 27 (zd 4 1),zv 28 (zg 1 27),zv 29 (zl 5 4),zv 30 (zl 5 6),zv 31 (.bsl 5 [zA 29,zA 30]),zv 32 (.bld [(.int .i64 0),(.int .i64 0),(.int .i64 0),(.str []),.nils] [(0,1,(zc 2)),(1,1,(.t 28)),(3,1,(.c (.str [45,62]))),(4,1,(.t 31))]),zm 33 7,zn (.st 5 zN (.t 4) (.t 32)),zm 5 33]
def qbh6:IC:=zr [zm 34 0,zi 35 (zk 55 [zI 34])]
def qbo6:IC:=zr [zm 36 0,zv 37 (zl 5 4),zm 38 5,zi 39 (zk 56 [zI 36,zA 37,zI 38]),zv 40 (zx 39 0),zv 41 (zx 39 1),zn (.st 5 zN (.t 2) (.t 40)),zm 3 41]
def k0ba:IC:=(.seq qbtm (.seq (.seq qbk9 (.cond (.t 10) (.seq qbjb .ret) .skip)) (.seq qbia (.seq (.seq qbpk (.cond (.t 21) (.seq qbqm qbn2) .skip)) (.seq qbh6 (.seq qbo6 .ret))))))
@[go_sem] def s0ba:List (RV×Co):=[(.c true 5 2,zN),(.t 3,.id)]
theorem c0ba:cFun Try.prog 54 = some (42,k0ba,s0ba):=by kernel_rfl

def qbto:IC:=zr [zm 2 0,zi 3 (zk 30 [zI 2]),zv 4 (.un .not (.t 3)),zm 5 4,zw 5 true 6 (zo 0),zw 5 true 7 (.nck (.t 6)),zw 5 true 8 (zd 7 6),zw 5 true 9 (zg 1 8),zw 5 true 10 (.bin .gtr .no (.t 9) (zc 0)),zv 11 (.pick (.t 5) (.t 10) (.c (.bool false)))]
def qbth:IC:=zr [zm 12 0,zv 13 (.nck (.t 12)),zv 14 (zd 13 6),zv 15 (zg 1 14),zv 16 (.bin .sub .no (.t 15) (zc 1)),zv 17 (.nck (.t 12)),zv 18 (zd 17 6),zn (.st 1 .id (.t 18) (.t 16))]
def k0bl:IC:=(.seq qbto (.cond (.t 11) qbth .skip))
@[go_sem] def s0bl:List (RV×Co):=[]
theorem c0bl:cFun Try.prog 55 = some (19,k0bl,s0bl):=by kernel_rfl

def qbul:IC:=zr [zi 4 (.box (.t 1)),zi 6 zaN,zv 7 zf]
def qbxx:IC:=zr [zm 8 2,zv 9 (.un .not (.t 8))]
def qbup:IC:=zr [zv 10 (.bld [(.int .i64 0),(.int .i64 0),(.int .i64 0),(.str []),.nils] []),zn (.st 5 zN (.t 6) (.t 10)),zv 7 zf]
def qbvq:IC:=zr [zv 11 (zl 5 4),zn (.st 5 zN (.t 6) (.t 11)),zv 7 (.mov (.c (.bool true)))]
def k0w:IC:=(.seq qbul (.seq (.seq qbxx (.cond (.t 9) (.seq qbup .ret) .skip)) (.seq qbvq .ret)))
@[go_sem] def s0w:List (RV×Co):=[(.c true 5 6,zN),(.t 7,.id)]
theorem c0w:cFun Try.prog 56 = some (12,k0w,s0w):=by kernel_rfl

def qbjz:IC:=zr [zi 1 zaN,zv 2 zf]
def qbqz:IC:=zr [zv 3 (zg 1 0),zi 4 (zk 37 [zI 3]),zv 5 (zx 4 0),zv 6 (zx 4 1),zn (.st 5 zN (.t 1) (.t 5)),zm 2 6]
def k0dg:IC:=(.seq qbjz (.seq qbqz .ret))
@[go_sem] def s0dg:List (RV×Co):=[(.c true 5 1,zN),(.t 2,.id)]
theorem c0dg:cFun Try.prog 57 = some (7,k0dg,s0dg):=by kernel_rfl

def qbtg:IC:=zr [zv 1 zf]
def qbki:IC:=zr [zv 2 (zg 1 0),zi 3 (zk 59 [zI 2]),zm 1 3]
def k0dh:IC:=(.seq qbtg (.seq qbki .ret))
@[go_sem] def s0dh:List (RV×Co):=[(.t 1,.id)]
theorem c0dh:cFun Try.prog 58 = some (4,k0dh,s0dh):=by kernel_rfl

def qbr1:IC:=zr [zv 2 zf]
def qbkc:IC:=zr [zm 4 0,zi 5 (zk 19 [zI 4]),zv 6 (.fld false 1 0 (.t 5)),zm 3 6]
def qbly:IC:=zr [zm 7 3,zv 8 (zq (.t 7) (zc 1)),zm 9 8,zw 9 false 10 (zo 3),zw 9 false 11 (zq (.t 10) (zc 2)),zv 12 (.pick (.t 9) (.c (.bool true)) (.t 11)),zm 13 12,zw 13 false 14 (zo 0),zj 13 false 15 (zk 33 [zI 14,((.c (.str [40])),.id)]),zv 16 (.pick (.t 13) (.c (.bool true)) (.t 15)),zm 2 16]
def k0df:IC:=(.seq qbr1 (.seq qbkc (.seq qbly .ret)))
@[go_sem] def s0df:List (RV×Co):=[(.t 2,.id)]
theorem c0df:cFun Try.prog 59 = some (17,k0df,s0df):=by kernel_rfl

def qbg6:IC:=zr [zv 4 zf]
def qbmu:IC:=zr [zm 8 0,zi 9 (zk 30 [zI 8])]
def qbl6:IC:=zr [zv 4 zf]
def qbny:IC:=zr [zv 5 (.mov (zc 0))]
def qbq0:IC:=.drw [zp (zm 10 0),zp (zv 11 (.nck (.t 10))),zp (zv 12 (zd 11 0)),zp (zv 13 (zg 1 12)),zp (zm 14 0),zp (zv 15 (.nck (.t 14))),zp (zv 16 (zd 15 5)),zp (zv 17 (zg 1 16)),zp (zv 18 (.slv 4 (.t 13) (some (.t 17)) none none)),zp (zv 19 (.len false (.t 18))),zp (zv 20 (.mov (zc 0)))]
def qbrr:IC:=zr [zv 21 (.bin .lss .no (.t 20) (.t 19))]
def qbsq:IC:=zr [zv 22 (.iad 4 (.t 18) (.t 20)),zv 23 (zl 4 22),zi 7 zaT,zn (.st 4 .id (.t 7) (.t 23))]
def qbr5:IC:=zr [zv 25 (zl 4 7),zv 26 (.bsl 1 [((.c (.str [40])),.id),((.c (.str [123])),.id)]),zi 27 (zk 52 [zI 25,((.t 26),(.sl 1))]),zm 24 27]
def qboe:IC:=zr [zm 28 5,zv 29 (.bin .add .no (.t 28) (zc 1)),zm 5 29]
def qbai:IC:=zr [zv 31 (zl 4 7),zv 32 (.bsl 1 [((.c (.str [41])),.id),((.c (.str [125])),.id)]),zi 33 (zk 52 [zI 31,((.t 32),(.sl 1))]),zm 30 33]
def qba1:IC:=zr [zm 34 5,zv 35 (.bin .sub .no (.t 34) (zc 1)),zm 5 35]
def qbam:IC:=zr [zm 36 5,zv 37 (.bin .lss .no (.t 36) (zc 0))]
def qbb5:IC:=zr [zv 4 zf]
def qbb0:IC:=zr [zm 39 5,zv 40 (.bin .gtr .no (.t 39) (zc 0)),zm 38 40]
def qbax:IC:=zr [zv 42 (zl 4 7),zv 43 (.bsl 1 [((.c (.str [59])),.id)]),zi 44 (zk 52 [zI 42,((.t 43),(.sl 1))]),zm 41 44]
def qbdf:IC:=zr [zv 4 zf]
def qbc2:IC:=zr [zv 46 (zl 4 7),zm 47 1,zv 48 (.bsl 1 [zI 47]),zi 49 (zk 52 [zI 46,((.t 48),(.sl 1))]),zm 45 49]
def qbe9:IC:=zr [zv 4 (.mov (.c (.bool true)))]
def qbdj:IC:=zr [zv 50 (.bin .add .no (.t 20) (zc 1)),zm 20 50]
def qbra:IC:=(.seq qbrr (.seq (.cond (.t 21) .skip (.exit 0)) (.seq (.block 1 (.seq qbsq (.block 2 (.seq qbr5 (.cond (.t 24) qboe (.seq qbai (.cond (.t 30) (.seq qba1 (.seq qbam (.cond (.t 37) (.seq qbb5 .ret) .skip))) (.seq qbb0 (.cond (.t 38) .skip (.seq qbax (.cond (.t 41) (.seq qbdf .ret) (.seq qbc2 (.cond (.t 45) (.seq qbe9 .ret) .skip))))))))))))) qbdj)))
def qbct:IC:=zr [zv 4 zf]
def k0cn:IC:=(.seq qbg6 (.seq (.seq qbmu (.cond (.t 9) (.seq qbl6 .ret) .skip)) (.seq qbny (.seq (.seq qbq0 (.block 0 (.loop qbra))) (.seq qbct .ret)))))
@[go_sem] def s0cn:List (RV×Co):=[(.t 4,.id)]
theorem c0cn:cFun Try.prog 60 = some (51,k0cn,s0cn):=by kernel_rfl

def qbyu:IC:=zr [zv 2 zf]
def qbzz:IC:=zr [zm 6 0,zi 7 (zk 23 [zI 6]),zm 5 7,zv 8 (zx 5 0),zv 9 (zx 5 1),zm 3 8,zm 4 9]
def qby6:IC:=zr [zm 10 4,zv 11 (.bin .neq .no (.t 10) (zc 0)),zm 12 11,zw 12 true 13 (zo 4),zw 12 true 14 (.bin .neq .no (.t 13) (zc 5)),zw 12 true 15 (zo 14),zw 15 false 16 (zo 0),zj 15 false 17 (zk 19 [zI 16]),zw 15 false 18 (.fld false 1 0 (.t 17)),zw 15 false 19 (zq (.t 18) (zc 0)),zw 12 true 20 (.pick (.t 15) (.c (.bool true)) (.t 19)),zv 21 (.pick (.t 12) (.t 20) (.c (.bool false))),zm 2 21]
def k0u:IC:=(.seq qbyu (.seq qbzz (.seq qby6 .ret)))
@[go_sem] def s0u:List (RV×Co):=[(.t 2,.id)]
theorem c0u:cFun Try.prog 61 = some (22,k0u,s0u):=by kernel_rfl

def qbz1:IC:=zr [zi 2 zaN,zv 3 zf]
def qbyk:IC:=zr [zm 8 0,zi 9 (zk 35 [zI 8,((zc 2),.id)]),zm 7 9,zv 10 (zx 7 0),zv 11 (zx 7 1),zi 4 zaT,zn (.st 4 .id (.t 4) (.t 10)),zm 5 11]
def qb1t:IC:=zr [zm 12 5,zv 13 (.un .not (.t 12))]
def qbut:IC:=zr [zv 14 (.bld [(.int .i64 0),(.int .i64 0),(.int .i64 0),(.str []),.nils] []),zn (.st 5 zN (.t 2) (.t 14)),zv 3 zf]
def qbvf:IC:=zr [zm 16 0,zi 17 (zk 37 [zI 16]),zm 15 17,zv 18 (zx 15 0),zv 19 (zx 15 1),zi 6 zaN,zn (.st 5 zN (.t 6) (.t 18)),zm 5 19]
def qbyd:IC:=zr [zm 20 0,zv 21 (zd 4 1),zv 22 (zg 1 21),zv 23 (zd 4 3),zv 24 (zg 1 23),zv 25 (zl 5 6),zv 26 (.bsl 5 [zA 25]),zv 27 (.bld [(.int .i64 0),(.int .i64 0),(.int .i64 0),(.str []),.nils] [(0,1,(zc 3)),(1,1,(.t 22)),(3,1,(.t 24)),(4,1,(.t 26))]),zm 28 5,zi 29 (zk 56 [zI 20,zA 27,zI 28]),zv 30 (zx 29 0),zv 31 (zx 29 1),zn (.st 5 zN (.t 2) (.t 30)),zm 3 31]
def k0v:IC:=(.seq qbz1 (.seq qbyk (.seq (.seq qb1t (.cond (.t 13) (.seq qbut .ret) .skip)) (.seq qbvf (.seq qbyd .ret)))))
@[go_sem] def s0v:List (RV×Co):=[(.c true 5 2,zN),(.t 3,.id)]
theorem c0v:cFun Try.prog 62 = some (32,k0v,s0v):=by kernel_rfl

def qbi7:IC:=zr [zi 2 zaN,zv 3 zf]
def qbli:IC:=zr [zv 4 (zg 1 0),zv 5 (zg 1 1),zi 6 (zk 64 [zI 4,zI 5]),zv 7 (zx 6 0),zv 8 (zx 6 1),zn (.st 5 zN (.t 2) (.t 7)),zm 3 8]
def k0cy:IC:=(.seq qbi7 (.seq qbli .ret))
@[go_sem] def s0cy:List (RV×Co):=[(.c true 5 2,zN),(.t 3,.id)]
theorem c0cy:cFun Try.prog 63 = some (9,k0cy,s0cy):=by kernel_rfl

def qbm3:IC:=zr [zi 4 zaN,zv 5 zf]
def qbp7:IC:=zr [zm 9 0,zi 10 (zk 29 [zI 9]),zm 8 10,zv 11 (zx 8 0),zv 12 (zx 8 1),zi 6 zaN,zn (.st 5 zN (.t 6) (.t 11)),zm 7 12]
def qbih:IC:=zr [zm 13 7,zm 14 13,zw 14 true 15 (zd 6 0),zw 14 true 16 (zg 1 15),zw 14 true 17 (zo 1),zw 14 true 18 (.bin .neq .no (.t 16) (.t 17)),zv 19 (.pick (.t 14) (.t 18) (.c (.bool false)))]
def qbsk:IC:=.drw [zp (zv 20 (zl 5 6)),zp (zm 21 0),(zi 22 (zk 43 [zI 21,((zc 5),.id)]),[0]),(zn (.st 5 zN (.t 4) (.t 20)),[]),zp (zm 5 22)]
def qbgz:IC:=zr [zv 23 (zl 5 6),zm 24 7,zn (.st 5 zN (.t 4) (.t 23)),zm 5 24]
def k0cx:IC:=(.seq qbm3 (.seq qbp7 (.seq (.seq qbih (.cond (.t 19) (.seq qbsk .ret) .skip)) (.seq qbgz .ret))))
@[go_sem] def s0cx:List (RV×Co):=[(.c true 5 4,zN),(.t 5,.id)]
theorem c0cx:cFun Try.prog 64 = some (25,k0cx,s0cx):=by kernel_rfl

def qbos:IC:=zr [zv 2 zf]
def qbs9:IC:=zr [zv 3 (zg 1 0),zi 4 (zk 33 [zI 3,((.c (.str [125])),.id)]),zv 5 (.un .not (.t 4)),zm 6 5,zw 6 true 7 (zg 1 1),zj 6 true 8 (.call (.t 7) []),zv 9 (.pick (.t 6) (.t 8) (.c (.bool false))),zm 10 9,zw 10 true 11 (zg 1 0),zj 10 true 12 (zk 33 [zI 11,((.c (.str [125])),.id)]),zw 10 true 13 (.un .not (.t 12)),zv 14 (.pick (.t 10) (.t 13) (.c (.bool false))),zm 2 14]
def k0cz:IC:=(.seq qbos (.seq qbs9 .ret))
@[go_sem] def s0cz:List (RV×Co):=[(.t 2,.id)]
theorem c0cz:cFun Try.prog 65 = some (15,k0cz,s0cz):=by kernel_rfl

def qbwc:IC:=zr [zi 2 zaN,zv 3 zf]
def qbz6:IC:=zr [zm 6 0,zi 7 (zk 53 [zI 6]),zv 8 (.un .not (.t 7))]
def qbwx:IC:=zr [zv 9 (.bld [(.int .i64 0),(.int .i64 0),(.int .i64 0),(.str []),.nils] []),zn (.st 5 zN (.t 2) (.t 9)),zv 3 zf]
def qbwa:IC:=zr [zm 11 0,zi 12 (zk 77 [zI 11]),zm 10 12,zv 13 (zx 10 0),zv 14 (zx 10 1),zi 4 zaN,zn (.st 5 zN (.t 4) (.t 13)),zm 5 14]
def qbwg:IC:=zr [zm 15 0,zi 16 (zk 55 [zI 15])]
def qby4:IC:=zr [zm 17 5,zv 18 (.un .not (.t 17))]
def qb2c:IC:=zr [zv 19 (.bld [(.int .i64 0),(.int .i64 0),(.int .i64 0),(.str []),.nils] []),zn (.st 5 zN (.t 2) (.t 19)),zv 3 zf]
def qbzi:IC:=zr [zv 20 (zl 5 4),zn (.st 5 zN (.t 2) (.t 20)),zv 3 (.mov (.c (.bool true)))]
def k0b:IC:=(.seq qbwc (.seq (.seq qbz6 (.cond (.t 8) (.seq qbwx .ret) .skip)) (.seq qbwa (.seq qbwg (.seq (.seq qby4 (.cond (.t 18) (.seq qb2c .ret) .skip)) (.seq qbzi .ret))))))
@[go_sem] def s0b:List (RV×Co):=[(.c true 5 2,zN),(.t 3,.id)]
theorem c0b:cFun Try.prog 66 = some (21,k0b,s0b):=by kernel_rfl

def qblx:IC:=zr [zv 4 (.mov (zc 0))]
def qbhd:IC:=zr [zm 6 0,zv 7 (.len true (.t 6)),zv 8 (.mov (zc 0))]
def qbpg:IC:=zr [zv 9 (.bin .lss .no (.t 8) (.t 7))]
def qbqu:IC:=zr [zm 10 8,zm 5 10]
def qbnp:IC:=zr [zm 11 1,zm 12 0,zm 13 5,zv 14 (.idx (.t 12) (.t 13)),zi 15 (.call (.t 11) [zI 14]),zv 16 (.un .not (.t 15))]
def qbst:IC:=zr [zm 17 5,zm 4 17]
def qbkl:IC:=zr [zv 18 (.bin .add .no (.t 8) (zc 1)),zm 8 18]
def qbp8:IC:=(.seq qbpg (.seq (.cond (.t 9) .skip (.exit 0)) (.seq (.block 1 (.seq qbqu (.seq qbnp (.cond (.t 16) (.seq qbst .ret) .skip)))) qbkl)))
def qbq4:IC:=zr [zm 19 0,zv 20 (.len true (.t 19)),zm 4 20]
def k0bx:IC:=(.seq qblx (.seq (.seq qbhd (.block 0 (.loop qbp8))) (.seq qbq4 .ret)))
@[go_sem] def s0bx:List (RV×Co):=[(.t 4,.id)]
theorem c0bx:cFun Try.prog 67 = some (21,k0bx,s0bx):=by kernel_rfl

def qbhf:IC:=zr [zv 2 zf]
def qbl5:IC:=zr [zm 3 0,zv 4 (zq (.t 3) (.c (.int .u8 9))),zm 5 4,zw 5 false 6 (zo 0),zw 5 false 7 (zq (.t 6) (.c (.int .u8 10))),zv 8 (.pick (.t 5) (.c (.bool true)) (.t 7)),zm 9 8,zw 9 false 10 (zo 0),zw 9 false 11 (zq (.t 10) (.c (.int .u8 13))),zv 12 (.pick (.t 9) (.c (.bool true)) (.t 11)),zm 13 12,zw 13 false 14 (zo 0),zw 13 false 15 (zq (.t 14) (.c (.int .u8 32))),zv 16 (.pick (.t 13) (.c (.bool true)) (.t 15)),zm 2 16]
def k0bv:IC:=(.seq qbhf (.seq qbl5 .ret))
@[go_sem] def s0bv:List (RV×Co):=[(.t 2,.id)]
theorem c0bv:cFun Try.prog 68 = some (17,k0bv,s0bv):=by kernel_rfl

def qbip:IC:=zr [zv 4 zf]
def qbn6:IC:=zr [zm 5 0,zm 6 1,zi 7 (zk 78 [zI 5,zI 6]),zm 4 7]
def k0bz:IC:=(.seq qbip (.seq qbn6 .ret))
@[go_sem] def s0bz:List (RV×Co):=[(.t 4,.id)]
theorem c0bz:cFun Try.prog 69 = some (8,k0bz,s0bz):=by kernel_rfl

def qbpv:IC:=zr [zv 2 zf]
def qbjc:IC:=zr [zm 3 0,zv 4 (.bin .neq .no (.t 3) (.c (.int .u8 10))),zm 2 4]
def k0bw:IC:=(.seq qbpv (.seq qbjc .ret))
@[go_sem] def s0bw:List (RV×Co):=[(.t 2,.id)]
theorem c0bw:cFun Try.prog 70 = some (5,k0bw,s0bw):=by kernel_rfl

def qbsh:IC:=zr [zv 2 zf]
def qbqk:IC:=zr [zm 3 0,zv 4 (.bin .geq .no (.t 3) (.c (.int .u8 48))),zm 5 4,zw 5 true 6 (zo 0),zw 5 true 7 (.bin .leq .no (.t 6) (.c (.int .u8 57))),zv 8 (.pick (.t 5) (.t 7) (.c (.bool false))),zm 2 8]
def k0bt:IC:=(.seq qbsh (.seq qbqk .ret))
@[go_sem] def s0bt:List (RV×Co):=[(.t 2,.id)]
theorem c0bt:cFun Try.prog 71 = some (9,k0bt,s0bt):=by kernel_rfl

def qbm8:IC:=zr [zv 2 (.mov (zc 0)),zv 3 (.mov (zc 0))]
def qbpm:IC:=zr [zm 8 0,zv 9 (.len true (.t 8)),zv 10 (.mov (zc 0))]
def qbgf:IC:=zr [zv 11 (.bin .lss .no (.t 10) (.t 9))]
def qbrm:IC:=zr [zm 12 10,zm 4 12]
def qbsm:IC:=zr [zm 13 0,zm 14 4,zv 15 (.idx (.t 13) (.t 14)),zv 16 (.bin .lss .no (.t 15) (.c (.int .u8 48))),zm 17 16,zw 17 false 18 (zo 0),zw 17 false 19 (zo 4),zw 17 false 20 (.idx (.t 18) (.t 19)),zw 17 false 21 (.bin .gtr .no (.t 20) (.c (.int .u8 57))),zv 22 (.pick (.t 17) (.c (.bool true)) (.t 21))]
def qbq7:IC:=zr [zv 2 (.mov (zc 0)),zv 3 (.mov (zc 5))]
def qbk8:IC:=zr [zv 23 (.bin .add .no (.t 10) (zc 1)),zm 10 23]
def qbn9:IC:=(.seq qbgf (.seq (.cond (.t 11) .skip (.exit 0)) (.seq (.block 1 (.seq qbrm (.seq qbsm (.cond (.t 22) (.seq qbq7 .ret) .skip)))) qbk8)))
def qbjm:IC:=zr [zm 24 0,zv 25 (zq (.t 24) (.c (.str [])))]
def qbew:IC:=zr [zv 2 (.mov (zc 0)),zv 3 (.mov (zc 5))]
def qba3:IC:=zr [zv 5 (.mov (zc 0)),zv 6 (.mov (zc 0))]
def qbe2:IC:=zr [zm 26 0,zm 27 6,zv 28 (.idx (.t 26) (.t 27)),zv 29 (.bin .sub .no (.t 28) (.c (.int .u8 48))),zv 30 (.cvi .i64 (.t 29)),zm 7 30]
def qbe3:IC:=zr [zm 31 5,zm 32 7,zv 33 (.bin .sub .no (zc 9223372036854775807) (.t 32)),zv 34 (.bin .quo .no (.t 33) (zc 10)),zv 35 (.bin .gtr .no (.t 31) (.t 34))]
def qbbv:IC:=zr [zv 2 (.mov (zc 0)),zv 3 (.mov (zc 4))]
def qbbe:IC:=zr [zm 36 5,zv 37 (.bin .mul .no (zc 10) (.t 36)),zm 38 7,zv 39 (.bin .add .no (.t 37) (.t 38)),zm 5 39]
def qbd6:IC:=zr [zm 40 6,zv 41 (.bin .add .no (.t 40) (zc 1)),zm 6 41]
def qbe0:IC:=zr [zm 42 6,zm 43 0,zv 44 (.len true (.t 43)),zv 45 (.bin .lss .no (.t 42) (.t 44))]
def qbae:IC:=zr [zm 46 5,zm 2 46,zv 3 (.mov (zc 0))]
def k0cb:IC:=(.seq qbm8 (.scope (.seq (.seq qbpm (.block 0 (.loop qbn9))) (.seq (.seq qbjm (.cond (.t 25) (.seq qbew .ret) .skip)) (.seq qba3 (.seq (.label 0) (.seq qbe2 (.seq (.seq qbe3 (.cond (.t 35) (.seq qbbv .ret) .skip)) (.seq qbbe (.seq (.seq qbd6 (.seq qbe0 (.cond (.t 45) (.goto 0) .skip))) (.seq qbae .ret)))))))))))
@[go_sem] def s0cb:List (RV×Co):=[(.t 2,.id),(.t 3,.id)]
theorem c0cb:cFun Try.prog 72 = some (47,k0cb,s0cb):=by kernel_rfl

def qblw:IC:=zr [zv 2 zf]
def qbq9:IC:=zr [zm 3 0,zv 4 (.bin .geq .no (.t 3) (.c (.int .u8 97))),zm 5 4,zw 5 true 6 (zo 0),zw 5 true 7 (.bin .leq .no (.t 6) (.c (.int .u8 122))),zv 8 (.pick (.t 5) (.t 7) (.c (.bool false))),zm 9 8,zw 9 false 10 (zo 0),zw 9 false 11 (.bin .geq .no (.t 10) (.c (.int .u8 65))),zw 9 false 12 (zo 11),zw 12 true 13 (zo 0),zw 12 true 14 (.bin .leq .no (.t 13) (.c (.int .u8 90))),zw 9 false 15 (.pick (.t 12) (.t 14) (.c (.bool false))),zv 16 (.pick (.t 9) (.c (.bool true)) (.t 15)),zm 17 16,zw 17 false 18 (zo 0),zw 17 false 19 (zq (.t 18) (.c (.int .u8 95))),zv 20 (.pick (.t 17) (.c (.bool true)) (.t 19)),zm 21 20,zw 21 false 22 (zo 0),zw 21 false 23 (zq (.t 22) (.c (.int .u8 39))),zv 24 (.pick (.t 21) (.c (.bool true)) (.t 23)),zm 25 24,zw 25 false 26 (zo 0),zj 25 false 27 (zk 71 [zI 26]),zv 28 (.pick (.t 25) (.c (.bool true)) (.t 27)),zm 2 28]
def k0bu:IC:=(.seq qblw (.seq qbq9 .ret))
@[go_sem] def s0bu:List (RV×Co):=[(.t 2,.id)]
theorem c0bu:cFun Try.prog 73 = some (29,k0bu,s0bu):=by kernel_rfl

def qbtl:IC:=zr [zi 2 zaT]
def qbj6:IC:=zr [zm 4 0,zv 5 (.bld [(.int .i64 0),(.int .i64 0),(.int .i64 0),(.str [])] [(0,1,(zc 1)),(3,1,(.t 4))]),zi 3 zaT,zn (.st 4 .id (.t 3) (.t 5))]
def qblc:IC:=zr [zm 7 0,zv 8 (zq (.t 7) (.c (.str [95]))),zm 6 8]
def qbg5:IC:=zr [zv 9 (zd 3 0),zn (.st 1 .id (.t 9) (zc 5))]
def qbl8:IC:=zr [zm 11 0,zi 12 (zk 79 [zI 11]),zm 10 12]
def qbrx:IC:=zr [zv 13 (zd 3 0),zn (.st 1 .id (.t 13) (zc 4))]
def qbp6:IC:=zr [zm 15 0,zi 16 (zk 80 [zI 15]),zm 14 16]
def qbpc:IC:=zr [zv 17 (zd 3 0),zn (.st 1 .id (.t 17) (zc 2))]
def qbnt:IC:=zr [zv 18 (zl 4 3),zn (.st 4 .id (.t 2) (.t 18))]
def k0bq:IC:=(.seq qbtl (.seq qbj6 (.seq (.block 0 (.seq qblc (.cond (.t 6) qbg5 (.seq qbl8 (.cond (.t 10) qbrx (.seq qbp6 (.cond (.t 14) qbpc .skip))))))) (.seq qbnt .ret))))
@[go_sem] def s0bq:List (RV×Co):=[(.c true 4 2,.id)]
theorem c0bq:cFun Try.prog 74 = some (19,k0bq,s0bq):=by kernel_rfl

def qbhi:IC:=zr [zv 2 (.mov (zc 0))]
def qbpw:IC:=zr [zv 5 (.bld [(.str []),(.str []),(.str []),(.str []),(.str []),(.str []),(.str []),(.str []),(.str []),(.str []),(.str []),(.str [])] [(0,1,(.c (.str [45,62]))),(1,1,(.c (.str [61,62]))),(2,1,(.c (.str [58,58]))),(3,1,(.c (.str [40]))),(4,1,(.c (.str [41]))),(5,1,(.c (.str [123]))),(6,1,(.c (.str [125]))),(7,1,(.c (.str [59]))),(8,1,(.c (.str [44]))),(9,1,(.c (.str [61]))),(10,1,(.c (.str [124]))),(11,1,(.c (.str [92])))]),zv 6 (.mov (zc 0))]
def qbri:IC:=zr [zv 7 (.bin .lss .no (.t 6) (zc 12))]
def qbju:IC:=zr [zv 8 (.ida false 1 12 (.t 5) (.t 6)),zm 4 8]
def qbsd:IC:=zr [zm 9 0,zm 10 4,zi 11 (zk 69 [zI 9,zI 10])]
def qbl7:IC:=zr [zm 12 4,zv 13 (.len true (.t 12)),zm 2 13]
def qbq2:IC:=zr [zv 14 (.bin .add .no (.t 6) (zc 1)),zm 6 14]
def qbrf:IC:=(.seq qbri (.seq (.cond (.t 7) .skip (.exit 0)) (.seq (.block 1 (.seq qbju (.seq qbsd (.cond (.t 11) (.seq qbl7 .ret) .skip)))) qbq2)))
def qbja:IC:=zr [zv 2 (.mov (zc 0))]
def k0br:IC:=(.seq qbhi (.seq (.seq qbpw (.block 0 (.loop qbrf))) (.seq qbja .ret)))
@[go_sem] def s0br:List (RV×Co):=[(.t 2,.id)]
theorem c0br:cFun Try.prog 75 = some (15,k0br,s0br):=by kernel_rfl

def qbxq:IC:=zr [zi 2 zaN,zv 3 zf]
def qbvs:IC:=zr [zm 8 0,zi 9 (zk 19 [zI 8]),zv 10 (.fld false 1 0 (.t 9)),zv 11 (.bin .neq .no (.t 10) (zc 2))]
def qbxw:IC:=zr [zm 12 0,zi 13 (zk 37 [zI 12]),zv 14 (zx 13 0),zv 15 (zx 13 1),zn (.st 5 zN (.t 2) (.t 14)),zm 3 15]
def qbvy:IC:=zr [zm 16 0,zi 17 (zk 34 [zI 16]),zi 4 zaT,zn (.st 4 .id (.t 4) (.t 17))]
def qbw3:IC:=zr [zv 18 (zd 4 1),zv 19 (zg 1 18),zv 20 (zd 4 3),zv 21 (zg 1 20),zv 22 (.bld [(.int .i64 0),(.int .i64 0),(.int .i64 0),(.str []),.nils] [(0,1,(zc 2)),(1,1,(.t 19)),(3,1,(.t 21))]),zi 5 zaN,zn (.st 5 zN (.t 5) (.t 22))]
def qb15:IC:=zr [zm 23 0,zi 24 (zk 81 [zI 23])]
def qb1f:IC:=zr [zm 26 0,zi 27 (zk 37 [zI 26]),zm 25 27,zv 28 (zx 25 0),zv 29 (zx 25 1),zi 6 zaN,zn (.st 5 zN (.t 6) (.t 28)),zm 7 29]
def qbyn:IC:=zr [zm 30 7,zv 31 (.un .not (.t 30))]
def qbzx:IC:=zr [zv 32 (.bld [(.int .i64 0),(.int .i64 0),(.int .i64 0),(.str []),.nils] []),zn (.st 5 zN (.t 2) (.t 32)),zv 3 zf]
def qbsn:IC:=zr [zv 33 (zd 5 4),zv 34 (zg 1 33),zv 35 (zl 5 6),zv 36 (.bsl 5 [zA 35]),zi 37 (.app 5 zZ 64 (.sl 5) (.t 34) (.t 36)),zv 38 (zd 5 4),zn (.st 1 (.sl 5) (.t 38) (.t 37))]
def qbv2:IC:=(.seq (.seq qb15 (.cond (.t 24) .skip (.exit 0))) (.block 1 (.seq qb1f (.seq (.seq qbyn (.cond (.t 31) (.seq qbzx .ret) .skip)) qbsn))))
def qbix:IC:=zr [zv 39 (zl 5 5),zn (.st 5 zN (.t 2) (.t 39)),zv 3 (.mov (.c (.bool true)))]
def k0z:IC:=(.seq qbxq (.seq (.seq qbvs (.cond (.t 11) (.seq qbxw .ret) .skip)) (.seq qbvy (.seq qbw3 (.seq (.block 0 (.loop qbv2)) (.seq qbix .ret))))))
@[go_sem] def s0z:List (RV×Co):=[(.c true 5 2,zN),(.t 3,.id)]
theorem c0z:cFun Try.prog 76 = some (40,k0z,s0z):=by kernel_rfl

def qbvw:IC:=zr [zi 2 zaN,zv 3 zf]
def qbx8:IC:=zr [zm 5 0,zi 6 (zk 19 [zI 5]),zv 7 (.fld false 1 1 (.t 6)),zv 8 (.bld [(.int .i64 0),(.int .i64 0),(.int .i64 0),(.str []),.nils] [(1,1,(.t 7))]),zi 4 zaN,zn (.st 5 zN (.t 4) (.t 8))]
def qbxk:IC:=zr [zm 10 0,zi 11 (zk 26 [zI 10,((.c (.str [92])),.id)]),zm 9 11]
def qbwq:IC:=zr [zm 12 0,zi 13 (zk 19 [zI 12]),zv 14 (.fld false 1 0 (.t 13)),zv 15 (.bin .neq .no (.t 14) (zc 1))]
def qb0l:IC:=.drw [zp (zv 16 (zl 5 4)),zp (zm 17 0),(zi 18 (zk 43 [zI 17,((zc 5),.id)]),[0]),(zn (.st 5 zN (.t 2) (.t 16)),[]),zp (zm 3 18)]
def qb0g:IC:=zr [zm 19 0,zi 20 (zk 46 [zI 19,((.c (.str [45,62])),.id)]),zv 21 (zx 20 0),zv 22 (zx 20 1),zn (.st 5 zN (.t 2) (.t 21)),zm 3 22]
def qbz2:IC:=zr [zm 24 0,zi 25 (zk 26 [zI 24,((.c (.str [108,101,116])),.id)]),zm 23 25]
def qbwk:IC:=zr [zm 26 0,zv 27 (zl 5 4),zi 28 (zk 82 [zI 26,zA 27]),zv 29 (zx 28 0),zv 30 (zx 28 1),zn (.st 5 zN (.t 2) (.t 29)),zm 3 30]
def qbwr:IC:=zr [zm 32 0,zi 33 (zk 26 [zI 32,((.c (.str [99,97,115,101])),.id)]),zm 31 33]
def qb0m:IC:=zr [zm 34 0,zv 35 (zl 5 4),zi 36 (zk 83 [zI 34,zA 35]),zv 37 (zx 36 0),zv 38 (zx 36 1),zn (.st 5 zN (.t 2) (.t 37)),zm 3 38]
def qbh5:IC:=zr [zm 40 0,zi 41 (zk 26 [zI 40,((.c (.str [105,102])),.id)]),zm 39 41]
def qbh2:IC:=zr [zm 42 0,zv 43 (zl 5 4),zi 44 (zk 84 [zI 42,zA 43]),zv 45 (zx 44 0),zv 46 (zx 44 1),zn (.st 5 zN (.t 2) (.t 45)),zm 3 46]
def qbp3:IC:=zr [zm 47 0,zi 48 (zk 85 [zI 47]),zv 49 (zx 48 0),zv 50 (zx 48 1),zn (.st 5 zN (.t 2) (.t 49)),zm 3 50]
def k0f:IC:=(.seq qbvw (.seq qbx8 (.seq (.block 0 (.seq qbxk (.cond (.t 9) (.seq (.seq qbwq (.cond (.t 15) (.seq qb0l .ret) .skip)) (.seq qb0g .ret)) (.seq qbz2 (.cond (.t 23) (.seq qbwk .ret) (.seq qbwr (.cond (.t 31) (.seq qb0m .ret) (.seq qbh5 (.cond (.t 39) (.seq qbh2 .ret) .skip))))))))) (.seq qbp3 .ret))))
@[go_sem] def s0f:List (RV×Co):=[(.c true 5 2,zN),(.t 3,.id)]
theorem c0f:cFun Try.prog 77 = some (51,k0f,s0f):=by kernel_rfl

def qblt:IC:=zr [zv 4 zf]
def qbla:IC:=zr [zm 5 0,zv 6 (.len true (.t 5)),zm 7 1,zv 8 (.len true (.t 7)),zv 9 (.bin .geq .no (.t 6) (.t 8)),zm 10 9,zw 10 true 11 (zo 0),zw 10 true 12 (zo 1),zw 10 true 13 (.len true (.t 12)),zw 10 true 14 (.sls (.t 11) none (some (.t 13))),zw 10 true 15 (zo 1),zw 10 true 16 (zq (.t 14) (.t 15)),zv 17 (.pick (.t 10) (.t 16) (.c (.bool false))),zm 4 17]
def k0by:IC:=(.seq qblt (.seq qbla .ret))
@[go_sem] def s0by:List (RV×Co):=[(.t 4,.id)]
theorem c0by:cFun Try.prog 78 = some (18,k0by,s0by):=by kernel_rfl

def qbhg:IC:=zr [zv 2 zf]
def qbti:IC:=zr [zv 3 zf]
def qbmb:IC:=zr [zv 6 (.bld [(.str []),(.str []),(.str []),(.str []),(.str []),(.str []),(.str []),(.str []),(.str []),(.str []),(.str [])] [(0,1,(.c (.str [100,97,116,97]))),(1,1,(.c (.str [99,108,97,115,115]))),(2,1,(.c (.str [105,110,115,116,97,110,99,101]))),(3,1,(.c (.str [119,104,101,114,101]))),(4,1,(.c (.str [108,101,116]))),(5,1,(.c (.str [105,110]))),(6,1,(.c (.str [99,97,115,101]))),(7,1,(.c (.str [111,102]))),(8,1,(.c (.str [105,102]))),(9,1,(.c (.str [116,104,101,110]))),(10,1,(.c (.str [101,108,115,101])))]),zv 7 (.mov (zc 0))]
def qbqt:IC:=zr [zv 8 (.bin .lss .no (.t 7) (zc 11))]
def qbmi:IC:=zr [zv 9 (.ida false 1 11 (.t 6) (.t 7)),zm 5 9]
def qbr2:IC:=zr [zm 10 5,zm 11 0,zv 12 (.bin .neq .no (.t 10) (.t 11))]
def qbkg:IC:=zr [zv 3 (.mov (.c (.bool true)))]
def qbrp:IC:=zr [zv 13 (.bin .add .no (.t 7) (zc 1)),zm 7 13]
def qbtp:IC:=(.seq qbqt (.seq (.cond (.t 8) .skip (.exit 0)) (.seq (.block 1 (.seq qbmi (.seq (.seq qbr2 (.cond (.t 12) (.exit 1) .skip)) (.seq qbkg (.exit 0))))) qbrp)))
def qbd0:IC:=zr [zm 14 3,zm 2 14]
def k0cf:IC:=(.seq qbhg (.scope (.seq qbti (.seq (.label 0) (.seq (.seq qbmb (.block 0 (.loop qbtp))) (.seq qbd0 .ret))))))
@[go_sem] def s0cf:List (RV×Co):=[(.t 2,.id)]
theorem c0cf:cFun Try.prog 79 = some (15,k0cf,s0cf):=by kernel_rfl

def qbni:IC:=zr [zv 2 zf]
def qbh8:IC:=zr [zm 3 0,zv 4 (.bin .neq .no (.t 3) (.c (.str []))),zm 5 4,zw 5 true 6 (zo 0),zw 5 true 7 (.idx (.t 6) (zc 0)),zj 5 true 8 (zk 86 [zI 7]),zv 9 (.pick (.t 5) (.t 8) (.c (.bool false))),zm 10 9,zw 10 true 11 (zo 0),zj 10 true 12 (zk 87 [zI 11]),zv 13 (.pick (.t 10) (.t 12) (.c (.bool false))),zm 2 13]
def k0cg:IC:=(.seq qbni (.seq qbh8 .ret))
@[go_sem] def s0cg:List (RV×Co):=[(.t 2,.id)]
theorem c0cg:cFun Try.prog 80 = some (14,k0cg,s0cg):=by kernel_rfl

def qbvj:IC:=zr [zv 2 zf]
def qb1b:IC:=zr [zm 4 0,zi 5 (zk 19 [zI 4]),zv 6 (.fld false 1 0 (.t 5)),zm 3 6]
def qby2:IC:=zr [zm 7 3,zv 8 (zq (.t 7) (zc 1)),zm 9 8,zw 9 false 10 (zo 3),zw 9 false 11 (zq (.t 10) (zc 2)),zv 12 (.pick (.t 9) (.c (.bool true)) (.t 11)),zm 13 12,zw 13 false 14 (zo 0),zj 13 false 15 (zk 33 [zI 14,((.c (.str [40])),.id)]),zv 16 (.pick (.t 13) (.c (.bool true)) (.t 15)),zm 2 16]
def k0x:IC:=(.seq qbvj (.seq qb1b (.seq qby2 .ret)))
@[go_sem] def s0x:List (RV×Co):=[(.t 2,.id)]
theorem c0x:cFun Try.prog 81 = some (17,k0x,s0x):=by kernel_rfl

def qbu6:IC:=zr [zi 2 (.box (.t 0)),zi 3 (.box (.t 1)),zi 4 zaN,zv 5 zf]
def qbx2:IC:=zr [zv 10 (zg 1 2),zv 11 (.mfn 89 [] [(.t 2)]),zi 12 (zk 88 [zI 10,zI 11]),zm 9 12,zv 13 (zx 9 0),zv 14 (zx 9 1),zm 6 13,zm 7 14]
def qb13:IC:=zr [zm 15 7,zv 16 (.un .not (.t 15)),zm 17 16,zw 17 false 18 (zg 1 2),zj 17 false 19 (zk 39 [zI 18,((.c (.str [105,110])),.id)]),zw 17 false 20 (.un .not (.t 19)),zv 21 (.pick (.t 17) (.c (.bool true)) (.t 20))]
def qbvi:IC:=zr [zv 22 (zl 5 3),zn (.st 5 zN (.t 4) (.t 22)),zv 5 zf]
def qb0v:IC:=zr [zv 24 (zg 1 2),zi 25 (zk 66 [zI 24]),zm 23 25,zv 26 (zx 23 0),zv 27 (zx 23 1),zi 8 zaN,zn (.st 5 zN (.t 8) (.t 26)),zm 7 27]
def qbzb:IC:=zr [zm 28 6,zv 29 (zl 5 8),zv 30 (.bsl 5 [zA 29]),zi 31 (.app 5 zZ 64 (.sl 5) (.t 28) (.t 30)),zv 32 (zd 3 0),zn (.st 1 .id (.t 32) (zc 26)),zv 33 (zd 3 4),zn (.st 1 (.sl 5) (.t 33) (.t 31))]
def qbt5:IC:=zr [zv 34 (zl 5 3),zm 35 7,zn (.st 5 zN (.t 4) (.t 34)),zm 5 35]
def k0c:IC:=(.seq qbu6 (.seq qbx2 (.seq (.seq qb13 (.cond (.t 21) (.seq qbvi .ret) .skip)) (.seq qb0v (.seq qbzb (.seq qbt5 .ret))))))
@[go_sem] def s0c:List (RV×Co):=[(.c true 5 4,zN),(.t 5,.id)]
theorem c0c:cFun Try.prog 82 = some (36,k0c,s0c):=by kernel_rfl

def qbx6:IC:=zr [zi 2 (.box (.t 0)),zi 3 (.box (.t 1)),zi 4 zaN,zv 5 zf]
def qbww:IC:=zr [zv 10 (zg 1 2),zi 11 (zk 66 [zI 10]),zm 9 11,zv 12 (zx 9 0),zv 13 (zx 9 1),zi 6 zaN,zn (.st 5 zN (.t 6) (.t 12)),zm 7 13]
def qbt6:IC:=zr [zm 14 7,zv 15 (.un .not (.t 14)),zm 16 15,zw 16 false 17 (zg 1 2),zj 16 false 18 (zk 39 [zI 17,((.c (.str [111,102])),.id)]),zw 16 false 19 (.un .not (.t 18)),zv 20 (.pick (.t 16) (.c (.bool true)) (.t 19))]
def qbzl:IC:=zr [zv 21 (zl 5 3),zn (.st 5 zN (.t 4) (.t 21)),zv 5 zf]
def qbxt:IC:=zr [zv 23 (zg 1 2),zv 24 (.mfn 90 [] [(.t 2)]),zi 25 (zk 88 [zI 23,zI 24]),zm 22 25,zv 26 (zx 22 0),zv 27 (zx 22 1),zm 8 26,zm 7 27]
def qbw0:IC:=zr [zv 28 (zl 5 6),zv 29 (.bsl 5 [zA 28]),zm 30 8,zi 31 (.app 5 zZ 64 (.sl 5) (.t 29) (.t 30)),zv 32 (zd 3 0),zn (.st 1 .id (.t 32) (zc 27)),zv 33 (zd 3 4),zn (.st 1 (.sl 5) (.t 33) (.t 31))]
def qbz4:IC:=zr [zv 34 (zl 5 3),zm 35 7,zn (.st 5 zN (.t 4) (.t 34)),zm 5 35]
def k0d:IC:=(.seq qbx6 (.seq qbww (.seq (.seq qbt6 (.cond (.t 20) (.seq qbzl .ret) .skip)) (.seq qbxt (.seq qbw0 (.seq qbz4 .ret))))))
@[go_sem] def s0d:List (RV×Co):=[(.c true 5 4,zN),(.t 5,.id)]
theorem c0d:cFun Try.prog 83 = some (36,k0d,s0d):=by kernel_rfl

def qbw1:IC:=zr [zi 3 (.box (.t 1)),zi 4 zaN,zv 5 zf]
def qb1l:IC:=zr [zv 10 (zd 3 0),zn (.st 1 .id (.t 10) (zc 28))]
def qbys:IC:=zr [zv 11 (.bld [(.str []),(.str []),(.str [])] [(0,1,(.c (.str []))),(1,1,(.c (.str [116,104,101,110]))),(2,1,(.c (.str [101,108,115,101])))]),zv 12 (.mov (zc 0))]
def qby3:IC:=zr [zv 13 (.bin .lss .no (.t 12) (zc 3))]
def qbvv:IC:=zr [zv 14 (.ida false 1 3 (.t 11) (.t 12)),zm 7 14]
def qbv5:IC:=zr [zm 15 7,zv 16 (.bin .neq .no (.t 15) (.c (.str []))),zm 17 16,zw 17 true 18 (zo 0),zw 17 true 19 (zo 7),zj 17 true 20 (zk 39 [zI 18,zI 19]),zw 17 true 21 (.un .not (.t 20)),zv 22 (.pick (.t 17) (.t 21) (.c (.bool false)))]
def qbyi:IC:=zr [zv 23 (zl 5 3),zn (.st 5 zN (.t 4) (.t 23)),zv 5 zf]
def qbwl:IC:=zr [zm 25 0,zi 26 (zk 66 [zI 25]),zm 24 26,zv 27 (zx 24 0),zv 28 (zx 24 1),zi 8 zaN,zn (.st 5 zN (.t 8) (.t 27)),zm 9 28]
def qbzn:IC:=zr [zm 29 9,zv 30 (.un .not (.t 29))]
def qbqy:IC:=zr [zv 31 (zl 5 3),zn (.st 5 zN (.t 4) (.t 31)),zv 5 zf]
def qbg0:IC:=zr [zv 32 (zd 3 4),zv 33 (zg 1 32),zv 34 (zl 5 8),zv 35 (.bsl 5 [zA 34]),zi 36 (.app 5 zZ 64 (.sl 5) (.t 33) (.t 35)),zv 37 (zd 3 4),zn (.st 1 (.sl 5) (.t 37) (.t 36))]
def qbjp:IC:=zr [zv 38 (.bin .add .no (.t 12) (zc 1)),zm 12 38]
def qb12:IC:=(.seq qby3 (.seq (.cond (.t 13) .skip (.exit 0)) (.seq (.block 1 (.seq qbvv (.seq (.seq qbv5 (.cond (.t 22) (.seq qbyi .ret) .skip)) (.seq qbwl (.seq (.seq qbzn (.cond (.t 30) (.seq qbqy .ret) .skip)) qbg0))))) qbjp)))
def qbs6:IC:=zr [zv 39 (zl 5 3),zn (.st 5 zN (.t 4) (.t 39)),zv 5 (.mov (.c (.bool true)))]
def k0e:IC:=(.seq qbw1 (.seq qb1l (.seq (.seq qbys (.block 0 (.loop qb12))) (.seq qbs6 .ret))))
@[go_sem] def s0e:List (RV×Co):=[(.c true 5 4,zN),(.t 5,.id)]
theorem c0e:cFun Try.prog 84 = some (40,k0e,s0e):=by kernel_rfl

def qb0h:IC:=zr [zi 2 zaN,zv 3 zf]
def qbw4:IC:=zr [zm 10 0,zi 11 (zk 92 [zI 10]),zm 9 11,zv 12 (zx 9 0),zv 13 (zx 9 1),zi 4 zaN,zn (.st 5 zN (.t 4) (.t 12)),zm 5 13]
def qbuq:IC:=zr [zm 14 5]
def qbu4:IC:=zr [zm 16 0,zi 17 (zk 93 [zI 16]),zm 15 17,zv 18 (zx 15 0),zv 19 (zx 15 1),zi 6 zaN,zn (.st 5 zN (.t 6) (.t 18)),zm 7 19]
def qbzk:IC:=zr [zm 20 7,zv 21 (.un .not (.t 20)),zm 22 21,zw 22 true 23 (zo 0),zj 22 true 24 (zk 33 [zI 23,((.c (.str [40])),.id)]),zw 22 true 25 (.un .not (.t 24)),zv 26 (.pick (.t 22) (.t 25) (.c (.bool false)))]
def qb0b:IC:=zr [zi 8 zaN]
def qbws:IC:=zr [zm 28 0,zi 29 (zk 92 [zI 28]),zm 27 29,zv 30 (zx 27 0),zv 31 (zx 27 1),zn (.st 5 zN (.t 8) (.t 30)),zm 5 31]
def qbxr:IC:=zr [zv 32 (zd 4 1),zv 33 (zg 1 32),zv 34 (zl 5 4),zv 35 (zl 5 8),zv 36 (.bsl 5 [zA 34,zA 35]),zv 37 (.bld [(.int .i64 0),(.int .i64 0),(.int .i64 0),(.str []),.nils] [(0,1,(zc 24)),(1,1,(.t 33)),(4,1,(.t 36))]),zn (.st 5 zN (.t 4) (.t 37))]
def qbxy:IC:=(.seq (.seq qbuq (.cond (.t 14) .skip (.exit 0))) (.block 1 (.seq (.seq qbu4 (.seq qbzk (.cond (.t 26) (.exit 0) .skip))) (.seq qb0b (.seq qbws qbxr)))))
def qbs8:IC:=zr [zv 38 (zl 5 4),zm 39 5,zn (.st 5 zN (.t 2) (.t 38)),zm 3 39]
def k0n:IC:=(.seq qb0h (.seq qbw4 (.seq (.block 0 (.loop qbxy)) (.seq qbs8 .ret))))
@[go_sem] def s0n:List (RV×Co):=[(.c true 5 2,zN),(.t 3,.id)]
theorem c0n:cFun Try.prog 85 = some (40,k0n,s0n):=by kernel_rfl

def qbnv:IC:=zr [zv 2 zf]
def qbsa:IC:=zr [zm 3 0,zv 4 (.bin .geq .no (.t 3) (.c (.int .u8 65))),zm 5 4,zw 5 true 6 (zo 0),zw 5 true 7 (.bin .leq .no (.t 6) (.c (.int .u8 90))),zv 8 (.pick (.t 5) (.t 7) (.c (.bool false))),zm 2 8]
def k0cd:IC:=(.seq qbnv (.seq qbsa .ret))
@[go_sem] def s0cd:List (RV×Co):=[(.t 2,.id)]
theorem c0cd:cFun Try.prog 86 = some (9,k0cd,s0cd):=by kernel_rfl

def qbor:IC:=zr [zv 2 zf]
def qbma:IC:=zr [zm 5 0,zv 6 (.len true (.t 5)),zv 7 (.mov (zc 0))]
def qbkn:IC:=zr [zv 8 (.bin .lss .no (.t 7) (.t 6))]
def qbh0:IC:=zr [zm 9 7,zm 3 9]
def qbp9:IC:=zr [zm 10 0,zm 11 3,zv 12 (.idx (.t 10) (.t 11)),zm 4 12]
def qbr0:IC:=zr [zm 13 4,zi 14 (zk 94 [zI 13]),zv 15 (.un .not (.t 14)),zm 16 15,zw 16 true 17 (zo 4),zj 16 true 18 (zk 86 [zI 17]),zw 16 true 19 (.un .not (.t 18)),zv 20 (.pick (.t 16) (.t 19) (.c (.bool false))),zm 21 20,zw 21 true 22 (zo 4),zw 21 true 23 (.bin .lss .no (.t 22) (.c (.int .u8 48))),zw 21 true 24 (zo 23),zw 24 false 25 (zo 4),zw 24 false 26 (.bin .gtr .no (.t 25) (.c (.int .u8 57))),zw 21 true 27 (.pick (.t 24) (.c (.bool true)) (.t 26)),zv 28 (.pick (.t 21) (.t 27) (.c (.bool false))),zm 29 28,zw 29 true 30 (zo 4),zw 29 true 31 (.bin .neq .no (.t 30) (.c (.int .u8 39))),zv 32 (.pick (.t 29) (.t 31) (.c (.bool false)))]
def qbj1:IC:=zr [zv 2 zf]
def qbka:IC:=zr [zv 33 (.bin .add .no (.t 7) (zc 1)),zm 7 33]
def qbil:IC:=(.seq qbkn (.seq (.cond (.t 8) .skip (.exit 0)) (.seq (.block 1 (.seq qbh0 (.seq qbp9 (.seq qbr0 (.cond (.t 32) (.seq qbj1 .ret) .skip))))) qbka)))
def qba9:IC:=zr [zv 2 (.mov (.c (.bool true)))]
def k0ce:IC:=(.seq qbor (.seq (.seq qbma (.block 0 (.loop qbil))) (.seq qba9 .ret)))
@[go_sem] def s0ce:List (RV×Co):=[(.t 2,.id)]
theorem c0ce:cFun Try.prog 87 = some (34,k0ce,s0ce):=by kernel_rfl

def qbvm:IC:=zr [zv 4 (.mov (.c .nils)),zv 5 zf]
def qbwm:IC:=zr [zm 9 0,zi 10 (zk 39 [zI 9,((.c (.str [123])),.id)]),zv 11 (.un .not (.t 10))]
def qbzu:IC:=zr [zv 4 (.mov (.c .nils)),zv 5 zf]
def qbxp:IC:=zr [zv 6 (.mov (.c .nils))]
def qbwd:IC:=zr [zm 13 1,zi 14 (.call (.t 13) []),zm 12 14,zv 15 (zx 12 0),zv 16 (zx 12 1),zi 7 zaN,zn (.st 5 zN (.t 7) (.t 15)),zm 8 16]
def qbz7:IC:=zr [zm 17 8,zv 18 (.un .not (.t 17))]
def qb05:IC:=zr [zv 4 (.mov (.c .nils)),zv 5 zf]
def qbt9:IC:=zr [zm 19 6,zv 20 (zl 5 7),zv 21 (.bsl 5 [zA 20]),zi 22 (.app 5 zZ 64 (.sl 5) (.t 19) (.t 21)),zm 6 22]
def qbf5:IC:=zr [zm 23 0,zi 24 (zk 26 [zI 23,((.c (.str [59])),.id)]),zv 25 (.un .not (.t 24)),zm 26 25,zw 26 false 27 (zo 0),zj 26 false 28 (zk 33 [zI 27,((.c (.str [125])),.id)]),zv 29 (.pick (.t 26) (.c (.bool true)) (.t 28))]
def qbqr:IC:=zr [zm 30 6,zm 31 0,zi 32 (zk 39 [zI 31,((.c (.str [125])),.id)]),zm 4 30,zm 5 32]
def qbff:IC:=(.block 1 (.seq qbwd (.seq (.seq qbz7 (.cond (.t 18) (.seq qb05 .ret) .skip)) (.seq qbt9 (.seq qbf5 (.cond (.t 29) (.seq qbqr .ret) .skip))))))
def k0i:IC:=(.seq qbvm (.seq (.seq qbwm (.cond (.t 11) (.seq qbzu .ret) .skip)) (.seq qbxp (.block 0 (.loop qbff)))))
@[go_sem] def s0i:List (RV×Co):=[(.t 4,(.sl 5)),(.t 5,.id)]
theorem c0i:cFun Try.prog 88 = some (33,k0i,s0i):=by kernel_rfl

def qbxf:IC:=zr [zi 1 zaN,zv 2 zf]
def qb1a:IC:=zr [zv 3 (zg 1 0),zi 4 (zk 29 [zI 3]),zv 5 (zx 4 0),zv 6 (zx 4 1),zn (.st 5 zN (.t 1) (.t 5)),zm 2 6]
def k0g:IC:=(.seq qbxf (.seq qb1a .ret))
@[go_sem] def s0g:List (RV×Co):=[(.c true 5 1,zN),(.t 2,.id)]
theorem c0g:cFun Try.prog 89 = some (7,k0g,s0g):=by kernel_rfl

def qb1x:IC:=zr [zi 1 zaN,zv 2 zf]
def qb0k:IC:=zr [zv 7 (zg 1 0),zi 8 (zk 91 [zI 7]),zm 6 8,zv 9 (zx 6 0),zv 10 (zx 6 1),zi 3 zaN,zn (.st 5 zN (.t 3) (.t 9)),zm 4 10]
def qb0y:IC:=zr [zm 11 4,zv 12 (.un .not (.t 11)),zm 13 12,zw 13 false 14 (zg 1 0),zj 13 false 15 (zk 39 [zI 14,((.c (.str [45,62])),.id)]),zw 13 false 16 (.un .not (.t 15)),zv 17 (.pick (.t 13) (.c (.bool true)) (.t 16))]
def qby0:IC:=zr [zv 18 (zl 5 3),zn (.st 5 zN (.t 1) (.t 18)),zv 2 zf]
def qb06:IC:=zr [zv 20 (zg 1 0),zi 21 (zk 66 [zI 20]),zm 19 21,zv 22 (zx 19 0),zv 23 (zx 19 1),zi 5 zaN,zn (.st 5 zN (.t 5) (.t 22)),zm 4 23]
def qbva:IC:=zr [zv 24 (zd 3 1),zv 25 (zg 1 24),zv 26 (zl 5 3),zv 27 (zl 5 5),zv 28 (.bsl 5 [zA 26,zA 27]),zv 29 (.bld [(.int .i64 0),(.int .i64 0),(.int .i64 0),(.str []),.nils] [(0,1,(zc 15)),(1,1,(.t 25)),(4,1,(.t 28))]),zm 30 4,zn (.st 5 zN (.t 1) (.t 29)),zm 2 30]
def k0h:IC:=(.seq qb1x (.seq qb0k (.seq (.seq qb0y (.cond (.t 17) (.seq qby0 .ret) .skip)) (.seq qb06 (.seq qbva .ret)))))
@[go_sem] def s0h:List (RV×Co):=[(.c true 5 1,zN),(.t 2,.id)]
theorem c0h:cFun Try.prog 90 = some (31,k0h,s0h):=by kernel_rfl

def qbw5:IC:=zr [zi 2 zaN,zv 3 zf]
def qbu5:IC:=zr [zm 8 0,zi 9 (zk 53 [zI 8]),zv 10 (.un .not (.t 9))]
def qbwo:IC:=zr [zv 11 (.bld [(.int .i64 0),(.int .i64 0),(.int .i64 0),(.str []),.nils] []),zn (.st 5 zN (.t 2) (.t 11)),zv 3 zf]
def qbx4:IC:=zr [zm 12 0,zi 13 (zk 19 [zI 12]),zv 14 (.fld false 1 0 (.t 13)),zv 15 (zq (.t 14) (zc 2)),zm 4 15]
def qby5:IC:=zr [zm 17 0,zi 18 (zk 95 [zI 17]),zm 16 18,zv 19 (zx 16 0),zv 20 (zx 16 1),zi 5 zaN,zn (.st 5 zN (.t 5) (.t 19)),zm 6 20]
def qbzt:IC:=zr [zm 21 6,zm 22 21,zw 22 true 23 (zo 4),zv 24 (.pick (.t 22) (.t 23) (.c (.bool false))),zm 25 24,zw 25 true 26 (zo 0),zj 25 true 27 (zk 96 [zI 26]),zv 28 (.pick (.t 25) (.t 27) (.c (.bool false)))]
def qbv8:IC:=zr [zi 7 zaN]
def qbzc:IC:=zr [zm 30 0,zi 31 (zk 95 [zI 30]),zm 29 31,zv 32 (zx 29 0),zv 33 (zx 29 1),zn (.st 5 zN (.t 7) (.t 32)),zm 6 33]
def qbt4:IC:=zr [zm 34 6]
def qbsc:IC:=zr [zv 35 (zd 5 4),zv 36 (zg 1 35),zv 37 (zl 5 7),zv 38 (.bsl 5 [zA 37]),zi 39 (.app 5 zZ 64 (.sl 5) (.t 36) (.t 38)),zv 40 (zd 5 4),zn (.st 1 (.sl 5) (.t 40) (.t 39))]
def qbye:IC:=(.seq (.seq qbzt (.cond (.t 28) .skip (.exit 0))) (.block 1 (.seq qbv8 (.seq qbzc (.seq qbt4 (.cond (.t 34) qbsc .skip))))))
def qbpy:IC:=zr [zm 41 0,zi 42 (zk 55 [zI 41])]
def qbjv:IC:=zr [zm 43 6,zv 44 (.un .not (.t 43))]
def qbsj:IC:=zr [zv 45 (.bld [(.int .i64 0),(.int .i64 0),(.int .i64 0),(.str []),.nils] []),zn (.st 5 zN (.t 2) (.t 45)),zv 3 zf]
def qbnc:IC:=zr [zv 46 (zl 5 5),zn (.st 5 zN (.t 2) (.t 46)),zv 3 (.mov (.c (.bool true)))]
def k0r:IC:=(.seq qbw5 (.seq (.seq qbu5 (.cond (.t 10) (.seq qbwo .ret) .skip)) (.seq qbx4 (.seq qby5 (.seq (.block 0 (.loop qbye)) (.seq qbpy (.seq (.seq qbjv (.cond (.t 44) (.seq qbsj .ret) .skip)) (.seq qbnc .ret))))))))
@[go_sem] def s0r:List (RV×Co):=[(.c true 5 2,zN),(.t 3,.id)]
theorem c0r:cFun Try.prog 91 = some (47,k0r,s0r):=by kernel_rfl

def qbus:IC:=zr [zi 2 zaN,zv 3 zf]
def qb0o:IC:=zr [zm 9 0,zi 10 (zk 93 [zI 9]),zm 8 10,zv 11 (zx 8 0),zv 12 (zx 8 1),zi 4 zaN,zn (.st 5 zN (.t 4) (.t 11)),zm 5 12]
def qbwj:IC:=zr [zm 13 5]
def qbu1:IC:=zr [zm 14 0,zi 15 (zk 34 [zI 14])]
def qbxn:IC:=zr [zv 16 (zl 5 4),zn (.st 5 zN (.t 2) (.t 16)),zv 3 (.mov (.c (.bool true)))]
def qbuu:IC:=zr [zm 17 0,zi 18 (zk 33 [zI 17,((.c (.str [40])),.id)]),zv 19 (.un .not (.t 18))]
def qbvr:IC:=zr [zv 20 (.bld [(.int .i64 0),(.int .i64 0),(.int .i64 0),(.str []),.nils] []),zm 21 0,zi 22 (zk 43 [zI 21,((zc 5),.id)]),zn (.st 5 zN (.t 2) (.t 20)),zm 3 22]
def qbud:IC:=zr [zm 23 0,zi 24 (zk 53 [zI 23]),zv 25 (.un .not (.t 24))]
def qb1v:IC:=zr [zv 26 (.bld [(.int .i64 0),(.int .i64 0),(.int .i64 0),(.str []),.nils] []),zn (.st 5 zN (.t 2) (.t 26)),zv 3 zf]
def qb07:IC:=zr [zm 27 0,zi 28 (zk 34 [zI 27])]
def qbp2:IC:=zr [zm 30 0,zi 31 (zk 66 [zI 30]),zm 29 31,zv 32 (zx 29 0),zv 33 (zx 29 1),zi 6 zaN,zn (.st 5 zN (.t 6) (.t 32)),zm 7 33]
def qbql:IC:=zr [zm 34 7,zv 35 (.un .not (.t 34)),zm 36 35,zw 36 false 37 (zo 0),zj 36 false 38 (zk 39 [zI 37,((.c (.str [41])),.id)]),zw 36 false 39 (.un .not (.t 38)),zv 40 (.pick (.t 36) (.c (.bool true)) (.t 39))]
def qbpe:IC:=zr [zv 41 (.bld [(.int .i64 0),(.int .i64 0),(.int .i64 0),(.str []),.nils] []),zn (.st 5 zN (.t 2) (.t 41)),zv 3 zf]
def qbpl:IC:=zr [zm 42 0,zi 43 (zk 55 [zI 42])]
def qbmp:IC:=zr [zv 44 (zl 5 6),zn (.st 5 zN (.t 2) (.t 44)),zv 3 (.mov (.c (.bool true)))]
def k0m:IC:=(.seq qbus (.seq (.seq qb0o (.seq qbwj (.cond (.t 13) (.seq qbu1 (.seq qbxn .ret)) .skip))) (.seq (.seq qbuu (.cond (.t 19) (.seq qbvr .ret) .skip)) (.seq (.seq qbud (.cond (.t 25) (.seq qb1v .ret) .skip)) (.seq qb07 (.seq qbp2 (.seq (.seq qbql (.cond (.t 40) (.seq qbpe .ret) .skip)) (.seq qbpl (.seq qbmp .ret)))))))))
@[go_sem] def s0m:List (RV×Co):=[(.c true 5 2,zN),(.t 3,.id)]
theorem c0m:cFun Try.prog 92 = some (45,k0m,s0m):=by kernel_rfl

def qbuf:IC:=zr [zi 2 zaN,zv 3 zf]
def qbwp:IC:=zr [zm 5 0,zi 6 (zk 19 [zI 5]),zi 4 zaT,zn (.st 4 .id (.t 4) (.t 6))]
def qb0t:IC:=zr [zv 7 (zd 4 0),zv 8 (zg 1 7)]
def qb1n:IC:=zr [zv 10 (zq (.t 8) (zc 1)),zm 9 10]
def qbuw:IC:=zr [zv 11 (zd 4 1),zv 12 (zg 1 11),zv 13 (zd 4 3),zv 14 (zg 1 13),zv 15 (.bld [(.int .i64 0),(.int .i64 0),(.int .i64 0),(.str []),.nils] [(0,1,(zc 21)),(1,1,(.t 12)),(3,1,(.t 14))]),zn (.st 5 zN (.t 2) (.t 15)),zv 3 (.mov (.c (.bool true)))]
def qbue:IC:=zr [zv 17 (zq (.t 8) (zc 2)),zm 16 17]
def qbyv:IC:=zr [zv 18 (zd 4 1),zv 19 (zg 1 18),zv 20 (zd 4 3),zv 21 (zg 1 20),zv 22 (.bld [(.int .i64 0),(.int .i64 0),(.int .i64 0),(.str []),.nils] [(0,1,(zc 22)),(1,1,(.t 19)),(3,1,(.t 21))]),zn (.st 5 zN (.t 2) (.t 22)),zv 3 (.mov (.c (.bool true)))]
def qb0r:IC:=zr [zv 24 (zq (.t 8) (zc 3)),zm 23 24]
def qb0i:IC:=zr [zv 25 (zd 4 1),zv 26 (zg 1 25),zv 27 (zd 4 2),zv 28 (zg 1 27),zv 29 (.bld [(.int .i64 0),(.int .i64 0),(.int .i64 0),(.str []),.nils] [(0,1,(zc 23)),(1,1,(.t 26)),(2,1,(.t 28))]),zn (.st 5 zN (.t 2) (.t 29)),zv 3 (.mov (.c (.bool true)))]
def qbvh:IC:=zr [zv 30 (.bld [(.int .i64 0),(.int .i64 0),(.int .i64 0),(.str []),.nils] []),zn (.st 5 zN (.t 2) (.t 30)),zv 3 zf]
def k0l:IC:=(.seq qbuf (.seq qbwp (.seq (.seq qb0t (.block 0 (.seq qb1n (.cond (.t 9) (.seq qbuw .ret) (.seq qbue (.cond (.t 16) (.seq qbyv .ret) (.seq qb0r (.cond (.t 23) (.seq qb0i .ret) .skip)))))))) (.seq qbvh .ret))))
@[go_sem] def s0l:List (RV×Co):=[(.c true 5 2,zN),(.t 3,.id)]
theorem c0l:cFun Try.prog 93 = some (31,k0l,s0l):=by kernel_rfl

def qboi:IC:=zr [zv 2 zf]
def qbkz:IC:=zr [zm 3 0,zv 4 (.bin .geq .no (.t 3) (.c (.int .u8 97))),zm 5 4,zw 5 true 6 (zo 0),zw 5 true 7 (.bin .leq .no (.t 6) (.c (.int .u8 122))),zv 8 (.pick (.t 5) (.t 7) (.c (.bool false))),zm 9 8,zw 9 false 10 (zo 0),zw 9 false 11 (zq (.t 10) (.c (.int .u8 95))),zv 12 (.pick (.t 9) (.c (.bool true)) (.t 11)),zm 2 12]
def k0cc:IC:=(.seq qboi (.seq qbkz .ret))
@[go_sem] def s0cc:List (RV×Co):=[(.t 2,.id)]
theorem c0cc:cFun Try.prog 94 = some (13,k0cc,s0cc):=by kernel_rfl

def qbxh:IC:=zr [zi 2 zaN,zv 3 zf]
def qbw6:IC:=zr [zm 9 0,zi 10 (zk 97 [zI 9]),zm 8 10,zv 11 (zx 8 0),zv 12 (zx 8 1),zi 4 zaN,zn (.st 5 zN (.t 4) (.t 11)),zm 5 12]
def qb0c:IC:=zr [zm 13 5]
def qb1o:IC:=zr [zm 14 0,zi 15 (zk 34 [zI 14])]
def qbxu:IC:=zr [zv 16 (zl 5 4),zn (.st 5 zN (.t 2) (.t 16)),zv 3 (.mov (.c (.bool true)))]
def qbz0:IC:=zr [zm 17 0,zi 18 (zk 33 [zI 17,((.c (.str [40])),.id)]),zv 19 (.un .not (.t 18))]
def qbyw:IC:=zr [zv 20 (.bld [(.int .i64 0),(.int .i64 0),(.int .i64 0),(.str []),.nils] []),zm 21 0,zi 22 (zk 43 [zI 21,((zc 5),.id)]),zn (.st 5 zN (.t 2) (.t 20)),zm 3 22]
def qb1w:IC:=zr [zm 23 0,zi 24 (zk 53 [zI 23]),zv 25 (.un .not (.t 24))]
def qbvl:IC:=zr [zv 26 (.bld [(.int .i64 0),(.int .i64 0),(.int .i64 0),(.str []),.nils] []),zn (.st 5 zN (.t 2) (.t 26)),zv 3 zf]
def qbv6:IC:=zr [zm 27 0,zi 28 (zk 34 [zI 27])]
def qbhh:IC:=zr [zm 30 0,zi 31 (zk 91 [zI 30]),zm 29 31,zv 32 (zx 29 0),zv 33 (zx 29 1),zi 6 zaN,zn (.st 5 zN (.t 6) (.t 32)),zm 7 33]
def qbo5:IC:=zr [zm 34 7,zv 35 (.un .not (.t 34)),zm 36 35,zw 36 false 37 (zo 0),zj 36 false 38 (zk 39 [zI 37,((.c (.str [41])),.id)]),zw 36 false 39 (.un .not (.t 38)),zv 40 (.pick (.t 36) (.c (.bool true)) (.t 39))]
def qbpq:IC:=zr [zv 41 (.bld [(.int .i64 0),(.int .i64 0),(.int .i64 0),(.str []),.nils] []),zn (.st 5 zN (.t 2) (.t 41)),zv 3 zf]
def qbsx:IC:=zr [zm 42 0,zi 43 (zk 55 [zI 42])]
def qbo7:IC:=zr [zv 44 (zl 5 6),zn (.st 5 zN (.t 2) (.t 44)),zv 3 (.mov (.c (.bool true)))]
def k0q:IC:=(.seq qbxh (.seq (.seq qbw6 (.seq qb0c (.cond (.t 13) (.seq qb1o (.seq qbxu .ret)) .skip))) (.seq (.seq qbz0 (.cond (.t 19) (.seq qbyw .ret) .skip)) (.seq (.seq qb1w (.cond (.t 25) (.seq qbvl .ret) .skip)) (.seq qbv6 (.seq qbhh (.seq (.seq qbo5 (.cond (.t 40) (.seq qbpq .ret) .skip)) (.seq qbsx (.seq qbo7 .ret)))))))))
@[go_sem] def s0q:List (RV×Co):=[(.c true 5 2,zN),(.t 3,.id)]
theorem c0q:cFun Try.prog 95 = some (45,k0q,s0q):=by kernel_rfl

def qbzm:IC:=zr [zv 2 zf]
def qb0a:IC:=zr [zm 6 0,zi 7 (zk 97 [zI 6]),zm 5 7,zv 8 (zx 5 0),zv 9 (zx 5 1),zi 3 zaN,zn (.st 5 zN (.t 3) (.t 8)),zm 4 9]
def qbyt:IC:=zr [zm 10 4,zm 11 10,zw 11 false 12 (zo 0),zj 11 false 13 (zk 33 [zI 12,((.c (.str [40])),.id)]),zv 14 (.pick (.t 11) (.c (.bool true)) (.t 13)),zm 2 14]
def k0p:IC:=(.seq qbzm (.seq qb0a (.seq qbyt .ret)))
@[go_sem] def s0p:List (RV×Co):=[(.t 2,.id)]
theorem c0p:cFun Try.prog 96 = some (15,k0p,s0p):=by kernel_rfl

def qbxg:IC:=zr [zi 2 zaN,zv 3 zf]
def qb08:IC:=zr [zm 6 0,zi 7 (zk 19 [zI 6]),zi 4 zaT,zn (.st 4 .id (.t 4) (.t 7))]
def qb1g:IC:=zr [zv 8 (zd 4 1),zv 9 (zg 1 8),zv 10 (zd 4 3),zv 11 (zg 1 10),zv 12 (.bld [(.int .i64 0),(.int .i64 0),(.int .i64 0),(.str []),.nils] [(1,1,(.t 9)),(3,1,(.t 11))]),zi 5 zaN,zn (.st 5 zN (.t 5) (.t 12))]
def qb19:IC:=zr [zv 15 (zd 4 0),zv 16 (zg 1 15),zv 17 (zq (.t 16) (zc 1)),zm 14 17]
def qbwv:IC:=zr [zv 18 (zd 5 0),zn (.st 1 .id (.t 18) (zc 11))]
def qbum:IC:=zr [zv 20 (zd 4 0),zv 21 (zg 1 20),zv 22 (zq (.t 21) (zc 2)),zm 19 22]
def qbvg:IC:=zr [zv 23 (zd 5 0),zn (.st 1 .id (.t 23) (zc 14))]
def qbu0:IC:=zr [zv 25 (zd 4 0),zv 26 (zg 1 25),zv 27 (zq (.t 26) (zc 3)),zm 24 27]
def qbzd:IC:=.drw [zp (zv 28 (zd 4 2)),zp (zv 29 (zg 1 28)),zp (zv 30 (zd 5 0)),(zn (.st 1 .id (.t 30) (zc 13)),[1]),zp (zv 31 (zd 5 2)),(zn (.st 1 .id (.t 31) (.t 29)),[]),zp (zv 32 (zd 5 3)),(zn (.st 1 .id (.t 32) (.c (.str []))),[])]
def qbya:IC:=zr [zm 34 0,zi 35 (zk 33 [zI 34,((.c (.str [95])),.id)]),zm 33 35]
def qbmr:IC:=zr [zv 36 (zd 5 0),zn (.st 1 .id (.t 36) (zc 12)),zv 37 (zd 5 3),zn (.st 1 .id (.t 37) (.c (.str [])))]
def qbji:IC:=zr [zv 13 (.bld [(.int .i64 0),(.int .i64 0),(.int .i64 0),(.str []),.nils] []),zn (.st 5 zN (.t 2) (.t 13)),zv 3 zf]
def qbqv:IC:=zr [zv 38 (zl 5 5),zn (.st 5 zN (.t 2) (.t 38)),zv 3 (.mov (.c (.bool true)))]
def k0o:IC:=(.seq qbxg (.seq qb08 (.seq qb1g (.seq (.block 0 (.seq qb19 (.cond (.t 14) qbwv (.seq qbum (.cond (.t 19) qbvg (.seq qbu0 (.cond (.t 24) qbzd (.seq qbya (.cond (.t 33) qbmr (.seq qbji .ret)))))))))) (.seq qbqv .ret)))))
@[go_sem] def s0o:List (RV×Co):=[(.c true 5 2,zN),(.t 3,.id)]
theorem c0o:cFun Try.prog 97 = some (39,k0o,s0o):=by kernel_rfl

end Go.Proofs.Ytfjbmjplnmaclaa
