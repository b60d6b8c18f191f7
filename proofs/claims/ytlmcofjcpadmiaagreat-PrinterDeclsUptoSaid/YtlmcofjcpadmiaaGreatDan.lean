/- A text of this proof. -/
import Derived.Test.YtlmcofjcpadmiaaGreatDah
import Derived.Test.YtlmcofjcpadmiaaGreatProg
set_option linter.unusedVariables false
set_option linter.unusedSimpArgs false
/- The compiled code of the functions. -/
namespace Go.Proofs.YtlmcofjcpadmiaaGreat
open Go Go.V
@[reducible] def zm (d s:Nat):GI:=⟨none,some d,.v (.mov (.t s))⟩
@[reducible] def zv (d:Nat) (x:IV):GI:=⟨none,some d,.v x⟩
@[reducible] def zi (d:Nat) (i:I):GI:=⟨none,some d,i⟩
@[reducible] def zn (i:I):GI:=⟨none,none,i⟩
@[reducible] def zw (j:Nat) (b:Bool) (d:Nat) (x:IV):GI:=⟨some (j,b),some d,.v x⟩
@[reducible] def zp (g:GI):GI×List Nat:=(g,[])
@[reducible] def zN:Co:=.agg [.id,.id,.id,.id,(.sl 5)]
@[reducible] def zC:Co:=.agg [(.sl 4),.id,.id,.id,.id,.id,.id,.id]
@[reducible] def zaN:I:=.alo [(.int .i64 0),(.int .i64 0),(.int .i64 0),(.str []),.nils]
@[reducible] def zaC:I:=.alo [.nils,(.int .i64 0),(.int .i64 0),(.int .i64 0),(.str []),(.int .i64 0),(.int .i64 0),(.int .i64 0)]
@[reducible] def zaT:I:=.alo [(.int .i64 0),(.int .i64 0),(.int .i64 0),(.str [])]
@[reducible] def zZ:AV:=.agg [(.int .i64 0),(.int .i64 0),(.int .i64 0),(.str []),.nils]
@[reducible] def zc (n:Int):Opd:=.c (.int .i64 n)
@[reducible] def zf:IV:=.mov (.c (.bool false))
@[reducible] def zr (l:List GI):IC:=.reg false l
@[reducible] def zk (f:FuncId) (l:List (Opd×Co)):I:=.call (.c (.fn f [] [])) l
@[reducible] def zA (n:Nat):Opd×Co:=(.t n,zN)
@[reducible] def zI (n:Nat):Opd×Co:=(.t n,.id)
@[reducible] def zx (n k:Nat):IV:=.ext (.t n) k
@[reducible] def zl (n k:Nat):IV:=.ld true n (.t k)
@[reducible] def zg (n k:Nat):IV:=.ld false n (.t k)
@[reducible] def zd (n k:Nat):IV:=.fad (.t n) k
@[reducible] def zq (a b:Opd):IV:=.bin .eql .no a b
@[reducible] def zo (n:Nat):IV:=.mov (.t n)
@[reducible] def zj (j:Nat) (b:Bool) (d:Nat) (i:I):GI:=⟨some (j,b),some d,i⟩
def qb1t:IC:=zr [zi 1 (.box (.t 0)),zv 2 zf]
def qb3u:IC:=zr [zv 15 (zl 5 1),zi 16 (zk 7 [zA 15]),zv 17 (zq (.t 16) (zc 0))]
def qboo:IC:=zr [zi 18 (zk 8 []),zm 2 18]
def qbya:IC:=zr [zv 19 (zl 5 1),zi 20 (zk 9 [zA 19]),zm 3 20]
def qbyy:IC:=zr [zv 21 (zl 5 1),zi 22 (zk 21 [zA 21]),zm 23 22,zw 23 true 24 (zo 3),zw 23 true 25 (.len true (.t 24)),zw 23 true 26 (.bin .leq .no (.t 25) (zc 100000)),zv 27 (.pick (.t 23) (.t 26) (.c (.bool false)))]
def qbv9:IC:=zr [zm 29 3,zi 30 (zk 22 [zI 29]),zm 28 30,zv 31 (zx 28 0),zv 32 (zx 28 1),zv 33 (zx 28 2),zi 4 zaN,zn (.st 5 zN (.t 4) (.t 31)),zm 5 32,zm 6 33]
def qbme:IC:=zr [zm 34 6,zv 35 (.bin .neq .no (.t 34) (zc 0)),zm 36 35,zw 36 false 37 (zl 5 4),zw 36 false 38 (zl 5 1),zj 36 false 39 (zk 23 [zA 37,zA 38]),zw 36 false 40 (.un .not (.t 39)),zv 41 (.pick (.t 36) (.c (.bool true)) (.t 40))]
def qbur:IC:=zr [zv 2 zf]
def qbl2:IC:=zr [zv 42 (zl 5 1),zi 43 (zk 13 [zA 42]),zm 7 43]
def qb09:IC:=zr [zv 44 (zl 5 1),zi 45 (zk 24 [zA 44]),zm 46 45,zw 46 true 47 (zo 7),zw 46 true 48 (.len true (.t 47)),zw 46 true 49 (.bin .leq .no (.t 48) (zc 100000)),zv 50 (.pick (.t 46) (.t 49) (.c (.bool false)))]
def qbdb:IC:=zr [zm 52 7,zi 53 (zk 25 [zI 52]),zm 51 53,zv 54 (zx 51 0),zv 55 (zx 51 1),zv 56 (zx 51 2),zi 8 zaN,zn (.st 5 zN (.t 8) (.t 54)),zm 9 55,zm 10 56]
def qbbt:IC:=zr [zm 57 10,zv 58 (.bin .neq .no (.t 57) (zc 0)),zm 59 58,zw 59 false 60 (zl 5 8),zw 59 false 61 (zl 5 1),zj 59 false 62 (zk 23 [zA 60,zA 61]),zw 59 false 63 (.un .not (.t 62)),zv 64 (.pick (.t 59) (.c (.bool true)) (.t 63))]
def qbga:IC:=zr [zv 2 zf]
def qbg6:IC:=zr [zv 65 (zl 5 1),zi 66 (zk 15 [zA 65]),zm 11 66]
def qbai:IC:=zr [zv 67 (zl 5 1),zi 68 (zk 26 [zA 67]),zm 69 68,zw 69 true 70 (zo 11),zw 69 true 71 (.len true (.t 70)),zw 69 true 72 (.bin .leq .no (.t 71) (zc 100000)),zv 73 (.pick (.t 69) (.t 72) (.c (.bool false)))]
def qbac:IC:=zr [zm 75 11,zi 76 (zk 27 [zI 75]),zm 74 76,zv 77 (zx 74 0),zv 78 (zx 74 1),zv 79 (zx 74 2),zi 12 zaN,zn (.st 5 zN (.t 12) (.t 77)),zm 13 78,zm 14 79]
def qbct:IC:=zr [zm 80 14,zv 81 (.bin .neq .no (.t 80) (zc 0)),zm 82 81,zw 82 false 83 (zl 5 12),zw 82 false 84 (zl 5 1),zj 82 false 85 (zk 23 [zA 83,zA 84]),zw 82 false 86 (.un .not (.t 85)),zv 87 (.pick (.t 82) (.c (.bool true)) (.t 86))]
def qbcs:IC:=zr [zv 2 zf]
def qbdr:IC:=zr [zi 88 (zk 8 []),zm 2 88]
def k0fr:IC:=(.seq qb1t (.seq (.seq qb3u (.cond (.t 17) (.seq qboo .ret) .skip)) (.seq (.seq qbya (.seq qbyy (.cond (.t 27) (.seq qbv9 (.seq qbme (.cond (.t 41) (.seq qbur .ret) .skip))) .skip))) (.seq (.seq qbl2 (.seq qb09 (.cond (.t 50) (.seq qbdb (.seq qbbt (.cond (.t 64) (.seq qbga .ret) .skip))) .skip))) (.seq (.seq qbg6 (.seq qbai (.cond (.t 73) (.seq qbac (.seq qbct (.cond (.t 87) (.seq qbcs .ret) .skip))) .skip))) (.seq qbdr .ret))))))
@[go_sem] def s0fr:List (RV×Co):=[(.t 2,.id)]
theorem c0fr:cFun Tryz.prog 4 = some (89,k0fr,s0fr):=by kernel_rfl

def qbuz:IC:=zr [zi 1 (.box (.t 0)),zv 2 zf]
def qby8:IC:=zr [zv 11 (zl 5 1),zi 12 (zk 7 [zA 11]),zv 13 (zq (.t 12) (zc 0)),zm 14 13,zw 14 false 15 (zl 5 1),zj 14 false 16 (zk 30 [zA 15]),zw 14 false 17 (.un .not (.t 16)),zv 18 (.pick (.t 14) (.c (.bool true)) (.t 17))]
def qb25:IC:=zr [zi 19 (zk 8 []),zm 2 19]
def qb06:IC:=zr [zv 20 (zd 1 0),zv 21 (zg 1 20),zv 22 (zq (.t 21) (zc 37))]
def qb24:IC:=zr [zv 23 (zl 5 1),zi 24 (zk 19 [zA 23]),zm 3 24]
def qbrn:IC:=zr [zm 26 3,zi 27 (zk 28 [zI 26]),zm 25 27,zv 28 (zx 25 0),zv 29 (zx 25 1),zv 30 (zx 25 2),zi 4 zaN,zn (.st 5 zN (.t 4) (.t 28)),zm 5 29,zm 6 30]
def qbqi:IC:=zr [zm 31 3,zv 32 (.len true (.t 31)),zv 33 (.bin .gtr .no (.t 32) (zc 100000)),zm 34 33,zw 34 false 35 (zo 6),zw 34 false 36 (zq (.t 35) (zc 0)),zw 34 false 37 (zo 36),zw 37 true 38 (zl 5 4),zw 37 true 39 (zl 5 1),zj 37 true 40 (zk 23 [zA 38,zA 39]),zw 34 false 41 (.pick (.t 37) (.t 40) (.c (.bool false))),zv 42 (.pick (.t 34) (.c (.bool true)) (.t 41)),zm 43 42,zj 43 true 44 (zk 8 []),zv 45 (.pick (.t 43) (.t 44) (.c (.bool false))),zm 2 45]
def qbyg:IC:=zr [zv 46 (zl 5 1),zi 47 (zk 17 [zA 46]),zm 7 47]
def qbod:IC:=zr [zm 49 7,zi 50 (zk 31 [zI 49]),zm 48 50,zv 51 (zx 48 0),zv 52 (zx 48 1),zv 53 (zx 48 2),zi 8 zaN,zn (.st 5 zN (.t 8) (.t 51)),zm 9 52,zm 10 53]
def qbnh:IC:=zr [zm 54 7,zv 55 (.len true (.t 54)),zv 56 (.bin .gtr .no (.t 55) (zc 100000)),zm 57 56,zw 57 false 58 (zo 10),zw 57 false 59 (zq (.t 58) (zc 0)),zw 57 false 60 (zo 59),zw 60 true 61 (zl 5 8),zw 60 true 62 (zl 5 1),zj 60 true 63 (zk 23 [zA 61,zA 62]),zw 57 false 64 (.pick (.t 60) (.t 63) (.c (.bool false))),zv 65 (.pick (.t 57) (.c (.bool true)) (.t 64)),zm 66 65,zj 66 true 67 (zk 8 []),zv 68 (.pick (.t 66) (.t 67) (.c (.bool false))),zm 2 68]
def k0fs:IC:=(.seq qbuz (.seq (.seq qby8 (.cond (.t 18) (.seq qb25 .ret) .skip)) (.seq (.seq qb06 (.cond (.t 22) (.seq qb24 (.seq qbrn (.seq qbqi .ret))) .skip)) (.seq qbyg (.seq qbod (.seq qbnh .ret))))))
@[go_sem] def s0fs:List (RV×Co):=[(.t 2,.id)]
theorem c0fs:cFun Tryz.prog 6 = some (69,k0fs,s0fs):=by kernel_rfl

def qbjh:IC:=zr [zi 1 (.box (.t 0)),zv 2 (.mov (zc 0))]
def qb4q:IC:=zr [zv 3 (zl 5 1),zi 4 (zk 32 [zA 3,((zc 3000),.id)]),zv 5 (.bin .lss .no (.t 4) (zc 0))]
def qb6i:IC:=zr [zv 2 (.mov (zc 0))]
def qbwz:IC:=zr [zv 2 (.mov (zc 1))]
def k0cf:IC:=(.seq qbjh (.seq (.seq qb4q (.cond (.t 5) (.seq qb6i .ret) .skip)) (.seq qbwz .ret)))
@[go_sem] def s0cf:List (RV×Co):=[(.t 2,.id)]
theorem c0cf:cFun Tryz.prog 7 = some (6,k0cf,s0cf):=by kernel_rfl

def qcac:IC:=zr [zv 0 zf]
def qcbw:IC:=zr [zv 5 (.bld [(.int .i64 0),(.int .i64 0),(.int .i64 0),(.str []),.nils] [(0,1,(zc 21)),(3,1,(.c (.str [120])))]),zi 1 zaN,zn (.st 5 zN (.t 1) (.t 5))]
def qb73:IC:=zr [zv 6 (.bld [(.int .i64 0),(.int .i64 0),(.int .i64 0),(.str []),.nils] [(0,1,(zc 21)),(3,1,(.c (.str [102])))]),zv 7 (zl 5 1),zv 8 (.bsl 5 [zA 6,zA 7]),zv 9 (.bld [(.int .i64 0),(.int .i64 0),(.int .i64 0),(.str []),.nils] [(0,1,(zc 24)),(4,1,(.t 8))]),zv 10 (.bsl 5 [zA 9]),zv 11 (.bld [(.int .i64 0),(.int .i64 0),(.int .i64 0),(.str []),.nils] [(0,1,(zc 25)),(3,1,(.c (.str [120]))),(4,1,(.t 10))]),zi 2 zaN,zn (.st 5 zN (.t 2) (.t 11))]
def qccy:IC:=zr [zv 12 (.bld [(.int .i64 0),(.int .i64 0),(.int .i64 0),(.str []),.nils] [(0,1,(zc 1)),(3,1,(.c (.str [97])))]),zi 3 zaN,zn (.st 5 zN (.t 3) (.t 12))]
def qb93:IC:=zr [zv 13 (zl 5 3),zv 14 (zl 5 3),zv 15 (.bsl 5 [zA 13,zA 14]),zv 16 (.bld [(.int .i64 0),(.int .i64 0),(.int .i64 0),(.str []),.nils] [(0,1,(zc 2)),(3,1,(.c (.str [45,62]))),(4,1,(.t 15))]),zv 17 (zl 5 3),zv 18 (.bsl 5 [zA 16,zA 17]),zv 19 (.bld [(.int .i64 0),(.int .i64 0),(.int .i64 0),(.str []),.nils] [(0,1,(zc 2)),(3,1,(.c (.str [45,62]))),(4,1,(.t 18))]),zi 4 zaN,zn (.st 5 zN (.t 4) (.t 19))]
def qccj:IC:=zr [zv 20 (zl 5 2),zi 21 (zk 15 [zA 20]),zv 22 (zq (.t 21) (.c (.str [92,32,120,32,45,62,32,102,32,120]))),zm 23 22,zw 23 true 24 (zl 5 4),zj 23 true 25 (zk 9 [zA 24]),zw 23 true 26 (zq (.t 25) (.c (.str [40,97,32,45,62,32,97,41,32,45,62,32,97]))),zv 27 (.pick (.t 23) (.t 26) (.c (.bool false))),zm 28 27,zw 28 true 29 (zl 5 4),zj 28 true 30 (zk 15 [zA 29]),zw 28 true 31 (zq (.t 30) (.c (.str []))),zv 32 (.pick (.t 28) (.t 31) (.c (.bool false))),zm 33 32,zw 33 true 34 (.bld [(.int .i64 0),(.int .i64 0),(.int .i64 0),(.str []),.nils] [(0,1,(zc 37))]),zj 33 true 35 (zk 19 [zA 34]),zw 33 true 36 (zq (.t 35) (.c (.str []))),zv 37 (.pick (.t 33) (.t 36) (.c (.bool false))),zm 38 37,zw 38 true 39 (zl 5 2),zw 38 true 40 (.bsl 5 [zA 39]),zw 38 true 41 (.bld [(.int .i64 0),(.int .i64 0),(.int .i64 0),(.str []),.nils] [(0,1,(zc 31)),(3,1,(.c (.str [120]))),(4,1,(.t 40))]),zj 38 true 42 (zk 17 [zA 41]),zw 38 true 43 (zq (.t 42) (.c (.str [120,32,61,32,92,32,120,32,45,62,32,102,32,120]))),zv 44 (.pick (.t 38) (.t 43) (.c (.bool false))),zm 45 44,zw 45 true 46 (.bld [(.int .i64 0),(.int .i64 0),(.int .i64 0),(.str []),.nils] [(0,1,(zc 12))]),zj 45 true 47 (zk 13 [zA 46]),zw 45 true 48 (zq (.t 47) (.c (.str [95]))),zv 49 (.pick (.t 45) (.t 48) (.c (.bool false))),zm 50 49,zw 50 true 51 (zl 5 3),zw 50 true 52 (.bsl 5 [zA 51]),zw 50 true 53 (.bld [(.int .i64 0),(.int .i64 0),(.int .i64 0),(.str []),.nils] [(0,1,(zc 4)),(4,1,(.t 52))]),zj 50 true 54 (zk 11 [zA 53]),zw 50 true 55 (zq (.t 54) (.c (.str [97]))),zv 56 (.pick (.t 50) (.t 55) (.c (.bool false))),zm 0 56]
def k0a:IC:=(.seq qcac (.seq qcbw (.seq qb73 (.seq qccy (.seq qb93 (.seq qccj .ret))))))
@[go_sem] def s0a:List (RV×Co):=[(.t 0,.id)]
theorem c0a:cFun Tryz.prog 8 = some (57,k0a,s0a):=by kernel_rfl

def qcag:IC:=zr [zi 1 (.box (.t 0)),zv 2 (.mov (.c (.str [])))]
def qcco:IC:=.drw [zp (zv 3 (zl 5 1)),(zi 4 (zk 21 [zA 3]),[]),(zv 5 (zl 5 1),[1]),(zv 6 (.bld [(.int .i64 0),(.int .i64 0),(.int .i64 0),(.str []),.nils] [(0,5,(.t 5))]),[]),(zv 7 (.mki 37 (.t 6) zN),[1]),(zi 8 (zk 33 [zI 4,zI 7]),[]),zp (zm 2 8)]
def k0f:IC:=(.seq qcag (.seq qcco .ret))
@[go_sem] def s0f:List (RV×Co):=[(.t 2,.id)]
theorem c0f:cFun Tryz.prog 9 = some (9,k0f,s0f):=by kernel_rfl

def qb7b:IC:=zr [zi 1 (.box (.t 0)),zv 2 (.mov (.c (.str [])))]
def qb8d:IC:=zr [zv 3 (zl 5 1),zv 4 (.bsl 5 [zA 3]),zv 5 (.bld [(.int .i64 0),(.int .i64 0),(.int .i64 0),(.str []),.nils] [(0,1,(zc 32)),(3,1,(.c (.str [120]))),(4,1,(.t 4))]),zi 6 (zk 30 [zA 5]),zv 7 (.un .not (.t 6))]
def qb7s:IC:=zr [zv 2 (.mov (.c (.str [])))]
def qcas:IC:=zr [zv 8 (zl 5 1),zi 9 (zk 36 [zA 8]),zm 2 9]
def k0i:IC:=(.seq qb7b (.seq (.seq qb8d (.cond (.t 7) (.seq qb7s .ret) .skip)) (.seq qcas .ret)))
@[go_sem] def s0i:List (RV×Co):=[(.t 2,.id)]
theorem c0i:cFun Tryz.prog 11 = some (10,k0i,s0i):=by kernel_rfl

def qca1:IC:=zr [zi 1 (.box (.t 0)),zv 2 (.mov (.c (.str [])))]
def qb77:IC:=.drw [zp (zv 3 (zl 5 1)),(zi 4 (zk 24 [zA 3]),[]),(zv 5 (zl 5 1),[1]),(zv 6 (.bld [(.int .i64 0),(.int .i64 0),(.int .i64 0),(.str []),.nils] [(0,5,(.t 5))]),[]),(zv 7 (.mki 38 (.t 6) zN),[1]),(zi 8 (zk 33 [zI 4,zI 7]),[]),zp (zm 2 8)]
def k0g:IC:=(.seq qca1 (.seq qb77 .ret))
@[go_sem] def s0g:List (RV×Co):=[(.t 2,.id)]
theorem c0g:cFun Tryz.prog 13 = some (9,k0g,s0g):=by kernel_rfl

def qb67:IC:=zr [zi 1 (.box (.t 0)),zv 2 (.mov (.c (.str [])))]
def qb8e:IC:=.drw [zp (zv 3 (zl 5 1)),(zi 4 (zk 26 [zA 3]),[]),(zv 5 (zl 5 1),[1]),(zv 6 (.bld [(.int .i64 0),(.int .i64 0),(.int .i64 0),(.str []),.nils] [(0,5,(.t 5))]),[]),(zv 7 (.mki 39 (.t 6) zN),[1]),(zi 8 (zk 33 [zI 4,zI 7]),[]),zp (zm 2 8)]
def k0h:IC:=(.seq qb67 (.seq qb8e .ret))
@[go_sem] def s0h:List (RV×Co):=[(.t 2,.id)]
theorem c0h:cFun Tryz.prog 15 = some (9,k0h,s0h):=by kernel_rfl

def qca6:IC:=zr [zi 1 (.box (.t 0)),zv 2 (.mov (.c (.str [])))]
def qb6u:IC:=.drw [zp (zv 3 (zd 1 0)),zp (zv 4 (zg 1 3)),zp (zv 5 (.bin .neq .no (.t 4) (zc 37))),zp (zm 6 5),zp (zw 6 true 7 (zl 5 1)),(zj 6 true 8 (zk 30 [zA 7]),[]),zp (zv 9 (.pick (.t 6) (.t 8) (.c (.bool false)))),(zv 10 (zl 5 1),[5]),(zv 11 (.bld [(.int .i64 0),(.int .i64 0),(.int .i64 0),(.str []),.nils] [(0,5,(.t 10))]),[]),(zv 12 (.mki 40 (.t 11) zN),[5]),(zi 13 (zk 33 [zI 9,zI 12]),[]),zp (zm 2 13)]
def k0j:IC:=(.seq qca6 (.seq qb6u .ret))
@[go_sem] def s0j:List (RV×Co):=[(.t 2,.id)]
theorem c0j:cFun Tryz.prog 17 = some (14,k0j,s0j):=by kernel_rfl

def qcb2:IC:=zr [zi 1 (.box (.t 0)),zv 2 (.mov (.c (.str [])))]
def qcb0:IC:=zr [zv 3 (zd 1 0),zv 4 (zg 1 3),zv 5 (.bin .neq .no (.t 4) (zc 37)),zm 6 5,zw 6 false 7 (zl 5 1),zj 6 false 8 (zk 30 [zA 7]),zw 6 false 9 (.un .not (.t 8)),zv 10 (.pick (.t 6) (.c (.bool true)) (.t 9))]
def qccm:IC:=zr [zv 2 (.mov (.c (.str [])))]
def qcc1:IC:=zr [zv 11 (zd 1 4),zv 12 (zg 1 11),zi 13 (zk 44 [((.t 12),(.sl 5)),((.c (.str [])),.id),((.c (.fn 45 [] [])),.id)]),zm 2 13]
def k0k:IC:=(.seq qcb2 (.seq (.seq qcb0 (.cond (.t 10) (.seq qccm .ret) .skip)) (.seq qcc1 .ret)))
@[go_sem] def s0k:List (RV×Co):=[(.t 2,.id)]
theorem c0k:cFun Tryz.prog 19 = some (14,k0k,s0k):=by kernel_rfl

def qbv5:IC:=zr [zi 1 (.box (.t 0)),zv 2 zf]
def qbzb:IC:=zr [zv 3 (zl 5 1),zi 4 (zk 47 [zA 3]),zm 5 4,zw 5 true 6 (zl 5 1),zj 5 true 7 (zk 48 [zA 6]),zv 8 (.pick (.t 5) (.t 7) (.c (.bool false))),zm 2 8]
def k0bi:IC:=(.seq qbv5 (.seq qbzb .ret))
@[go_sem] def s0bi:List (RV×Co):=[(.t 2,.id)]
theorem c0bi:cFun Tryz.prog 21 = some (9,k0bi,s0bi):=by kernel_rfl

def qbm2:IC:=zr [zi 2 zaN,zv 3 (.mov (zc 0)),zv 4 (.mov (zc 0))]
def qbp2:IC:=zr [zv 6 (.bld [(.bool false)] []),zv 7 (.mfn 49 [(.t 6)] []),zm 5 7]
def qbth:IC:=zr [zm 8 0,zm 9 5,zi 10 (zk 50 [zI 8,zI 9]),zv 11 (zx 10 0),zv 12 (zx 10 1),zv 13 (zx 10 2),zn (.st 5 zN (.t 2) (.t 11)),zm 3 12,zm 4 13]
def k0dy:IC:=(.seq qbm2 (.seq qbp2 (.seq qbth .ret)))
@[go_sem] def s0dy:List (RV×Co):=[(.c true 5 2,zN),(.t 3,.id),(.t 4,.id)]
theorem c0dy:cFun Tryz.prog 22 = some (14,k0dy,s0dy):=by kernel_rfl

def qby2:IC:=zr [zi 2 (.box (.t 0)),zi 3 (.box (.t 1)),zv 4 zf]
def qbo7:IC:=zr [zv 6 (zd 2 0),zv 7 (zg 1 6),zv 8 (zd 3 0),zv 9 (zg 1 8),zv 10 (.bin .neq .no (.t 7) (.t 9)),zm 11 10,zw 11 false 12 (zd 2 3),zw 11 false 13 (zg 1 12),zw 11 false 14 (zd 3 3),zw 11 false 15 (zg 1 14),zw 11 false 16 (.bin .neq .no (.t 13) (.t 15)),zv 17 (.pick (.t 11) (.c (.bool true)) (.t 16)),zm 18 17,zw 18 false 19 (zd 2 2),zw 18 false 20 (zg 1 19),zw 18 false 21 (zd 3 2),zw 18 false 22 (zg 1 21),zw 18 false 23 (.bin .neq .no (.t 20) (.t 22)),zv 24 (.pick (.t 18) (.c (.bool true)) (.t 23)),zm 25 24,zw 25 false 26 (zd 2 4),zw 25 false 27 (zg 1 26),zw 25 false 28 (.len false (.t 27)),zw 25 false 29 (zd 3 4),zw 25 false 30 (zg 1 29),zw 25 false 31 (.len false (.t 30)),zw 25 false 32 (.bin .neq .no (.t 28) (.t 31)),zv 33 (.pick (.t 25) (.c (.bool true)) (.t 32))]
def qb5x:IC:=zr [zv 4 zf]
def qbsu:IC:=zr [zv 34 (zd 2 4),zv 35 (zg 1 34),zv 36 (.len false (.t 35)),zv 37 (.mov (zc 0))]
def qbp4:IC:=zr [zv 38 (.bin .lss .no (.t 37) (.t 36))]
def qbsy:IC:=zr [zm 39 37,zm 5 39]
def qbs8:IC:=.drw [zp (zv 40 (zd 2 4)),zp (zv 41 (zg 1 40)),zp (zm 42 5),zp (zv 43 (.iad 5 (.t 41) (.t 42))),zp (zv 44 (zl 5 43)),zp (zv 45 (zd 3 4)),zp (zv 46 (zg 1 45)),zp (zm 47 5),zp (zv 48 (.iad 5 (.t 46) (.t 47))),zp (zv 49 (zl 5 48)),(zi 50 (zk 23 [zA 44,zA 49]),[]),zp (zv 51 (.un .not (.t 50)))]
def qb4h:IC:=zr [zv 4 zf]
def qb55:IC:=zr [zv 52 (.bin .add .no (.t 37) (zc 1)),zm 37 52]
def qbxm:IC:=(.seq qbp4 (.seq (.cond (.t 38) .skip (.exit 0)) (.seq (.block 1 (.seq qbsy (.seq qbs8 (.cond (.t 51) (.seq qb4h .ret) .skip)))) qb55)))
def qbad:IC:=zr [zv 4 (.mov (.c (.bool true)))]
def k0bz:IC:=(.seq qby2 (.seq (.seq qbo7 (.cond (.t 33) (.seq qb5x .ret) .skip)) (.seq (.seq qbsu (.block 0 (.loop qbxm))) (.seq qbad .ret))))
@[go_sem] def s0bz:List (RV×Co):=[(.t 4,.id)]
theorem c0bz:cFun Tryz.prog 23 = some (53,k0bz,s0bz):=by kernel_rfl

def qbv8:IC:=zr [zi 1 (.box (.t 0)),zv 2 zf]
def qb3v:IC:=zr [zv 3 (zl 5 1),zi 4 (zk 47 [zA 3]),zm 5 4,zw 5 true 6 (zl 5 1),zj 5 true 7 (zk 51 [zA 6]),zv 8 (.pick (.t 5) (.t 7) (.c (.bool false))),zm 2 8]
def k0bj:IC:=(.seq qbv8 (.seq qb3v .ret))
@[go_sem] def s0bj:List (RV×Co):=[(.t 2,.id)]
theorem c0bj:cFun Tryz.prog 24 = some (9,k0bj,s0bj):=by kernel_rfl

def qbxq:IC:=zr [zi 2 zaN,zv 3 (.mov (zc 0)),zv 4 (.mov (zc 0))]
def qbqx:IC:=zr [zm 14 0,zi 15 (zk 52 [zI 14]),zm 13 15,zv 16 (zx 13 0),zv 17 (zx 13 1),zv 18 (zx 13 2),zm 5 16,zm 6 17,zm 7 18]
def qbq1:IC:=zr [zm 19 7,zv 20 (.bin .neq .no (.t 19) (zc 0))]
def qb3h:IC:=zr [zv 21 (.bld [(.int .i64 0),(.int .i64 0),(.int .i64 0),(.str []),.nils] []),zm 22 6,zm 23 7,zn (.st 5 zN (.t 2) (.t 21)),zm 3 22,zm 4 23]
def qb3k:IC:=zr [zm 24 5,zi 25 (zk 53 [((.t 24),(.sl 4))]),zm 8 25]
def qbna:IC:=zr [zm 27 8,zi 28 (zk 54 [zI 27]),zm 26 28,zv 29 (zx 26 0),zv 30 (zx 26 1),zi 9 zaN,zn (.st 5 zN (.t 9) (.t 29)),zm 10 30]
def qbou:IC:=zr [zm 32 8,zi 33 (zk 55 [zI 32]),zm 31 33,zv 34 (zx 31 0),zv 35 (zx 31 1),zm 11 34,zm 12 35]
def qbzn:IC:=zr [zm 36 12,zv 37 (.bin .neq .no (.t 36) (zc 0))]
def qbld:IC:=zr [zv 38 (.bld [(.int .i64 0),(.int .i64 0),(.int .i64 0),(.str []),.nils] []),zm 39 11,zm 40 12,zn (.st 5 zN (.t 2) (.t 38)),zm 3 39,zm 4 40]
def qb4y:IC:=zr [zv 41 (zl 5 9),zi 42 (zk 56 [zA 41]),zv 43 (.bin .gtr .no (.t 42) (zc 100))]
def qbfd:IC:=.drw [(zv 44 (.bld [(.int .i64 0),(.int .i64 0),(.int .i64 0),(.str []),.nils] []),[]),zp (zv 45 (zd 9 1)),zp (zv 46 (zg 1 45)),(zn (.st 5 zN (.t 2) (.t 44)),[2]),zp (zm 3 46),zp (zv 4 (.mov (zc 2)))]
def qbb7:IC:=zr [zv 47 (zl 5 9),zn (.st 5 zN (.t 2) (.t 47)),zv 3 (.mov (zc 0)),zv 4 (.mov (zc 0))]
def k0ft:IC:=(.seq qbxq (.seq qbqx (.seq (.seq qbq1 (.cond (.t 20) (.seq qb3h .ret) .skip)) (.seq qb3k (.seq qbna (.seq (.seq qbou (.seq qbzn (.cond (.t 37) (.seq qbld .ret) .skip))) (.seq (.seq qb4y (.cond (.t 43) (.seq qbfd .ret) .skip)) (.seq qbb7 .ret))))))))
@[go_sem] def s0ft:List (RV×Co):=[(.c true 5 2,zN),(.t 3,.id),(.t 4,.id)]
theorem c0ft:cFun Tryz.prog 25 = some (48,k0ft,s0ft):=by kernel_rfl

def qbxr:IC:=zr [zi 1 (.box (.t 0)),zv 2 zf]
def qbni:IC:=zr [zv 3 (zl 5 1),zi 4 (zk 47 [zA 3]),zm 5 4,zw 5 true 6 (zl 5 1),zj 5 true 7 (zk 57 [zA 6]),zv 8 (.pick (.t 5) (.t 7) (.c (.bool false))),zm 2 8]
def k0bk:IC:=(.seq qbxr (.seq qbni .ret))
@[go_sem] def s0bk:List (RV×Co):=[(.t 2,.id)]
theorem c0bk:cFun Tryz.prog 26 = some (9,k0bk,s0bk):=by kernel_rfl

def qb0f:IC:=zr [zi 2 zaN,zv 3 (.mov (zc 0)),zv 4 (.mov (zc 0))]
def qbjf:IC:=zr [zm 14 0,zi 15 (zk 52 [zI 14]),zm 13 15,zv 16 (zx 13 0),zv 17 (zx 13 1),zv 18 (zx 13 2),zm 5 16,zm 6 17,zm 7 18]
def qbns:IC:=zr [zm 19 7,zv 20 (.bin .neq .no (.t 19) (zc 0))]
def qb2i:IC:=zr [zv 21 (.bld [(.int .i64 0),(.int .i64 0),(.int .i64 0),(.str []),.nils] []),zm 22 6,zm 23 7,zn (.st 5 zN (.t 2) (.t 21)),zm 3 22,zm 4 23]
def qbyk:IC:=zr [zm 24 5,zi 25 (zk 53 [((.t 24),(.sl 4))]),zm 8 25]
def qb3n:IC:=zr [zm 27 8,zi 28 (zk 58 [zI 27]),zm 26 28,zv 29 (zx 26 0),zv 30 (zx 26 1),zi 9 zaN,zn (.st 5 zN (.t 9) (.t 29)),zm 10 30]
def qb6a:IC:=zr [zm 32 8,zi 33 (zk 55 [zI 32]),zm 31 33,zv 34 (zx 31 0),zv 35 (zx 31 1),zm 11 34,zm 12 35]
def qbss:IC:=zr [zm 36 12,zv 37 (.bin .neq .no (.t 36) (zc 0))]
def qbnm:IC:=zr [zv 38 (.bld [(.int .i64 0),(.int .i64 0),(.int .i64 0),(.str []),.nils] []),zm 39 11,zm 40 12,zn (.st 5 zN (.t 2) (.t 38)),zm 3 39,zm 4 40]
def qbjg:IC:=zr [zv 41 (zl 5 9),zi 42 (zk 56 [zA 41]),zv 43 (.bin .gtr .no (.t 42) (zc 100))]
def qbd0:IC:=.drw [(zv 44 (.bld [(.int .i64 0),(.int .i64 0),(.int .i64 0),(.str []),.nils] []),[]),zp (zv 45 (zd 9 1)),zp (zv 46 (zg 1 45)),(zn (.st 5 zN (.t 2) (.t 44)),[2]),zp (zm 3 46),zp (zv 4 (.mov (zc 2)))]
def qbeu:IC:=zr [zv 47 (zl 5 9),zn (.st 5 zN (.t 2) (.t 47)),zv 3 (.mov (zc 0)),zv 4 (.mov (zc 0))]
def k0df:IC:=(.seq qb0f (.seq qbjf (.seq (.seq qbns (.cond (.t 20) (.seq qb2i .ret) .skip)) (.seq qbyk (.seq qb3n (.seq (.seq qb6a (.seq qbss (.cond (.t 37) (.seq qbnm .ret) .skip))) (.seq (.seq qbjg (.cond (.t 43) (.seq qbd0 .ret) .skip)) (.seq qbeu .ret))))))))
@[go_sem] def s0df:List (RV×Co):=[(.c true 5 2,zN),(.t 3,.id),(.t 4,.id)]
theorem c0df:cFun Tryz.prog 27 = some (48,k0df,s0df):=by kernel_rfl

def qb9y:IC:=zr [zi 2 zaN,zv 3 (.mov (zc 0)),zv 4 (.mov (zc 0))]
def qcaj:IC:=zr [zm 5 0,zi 6 (zk 59 [zI 5,((.c (.fn 60 [] [])),.id)]),zv 7 (zx 6 0),zv 8 (zx 6 1),zv 9 (zx 6 2),zn (.st 5 zN (.t 2) (.t 7)),zm 3 8,zm 4 9]
def k0c:IC:=(.seq qb9y (.seq qcaj .ret))
@[go_sem] def s0c:List (RV×Co):=[(.c true 5 2,zN),(.t 3,.id),(.t 4,.id)]
theorem c0c:cFun Tryz.prog 28 = some (10,k0c,s0c):=by kernel_rfl

def qb2z:IC:=zr [zi 1 (.box (.t 0)),zv 2 zf]
def qbzl:IC:=zr [zv 3 (zd 1 0),zv 4 (zg 1 3),zv 5 (zq (.t 4) (zc 37))]
def qbi8:IC:=zr [zv 6 (zl 5 1),zi 7 (zk 47 [zA 6]),zm 8 7,zw 8 true 9 (zl 5 1),zj 8 true 10 (zk 67 [zA 9]),zv 11 (.pick (.t 8) (.t 10) (.c (.bool false))),zm 12 11,zw 12 true 13 (zd 1 4),zw 12 true 14 (zg 1 13),zj 12 true 15 (zk 68 [((.t 14),(.sl 5)),((.c (.fn 69 [] [])),.id)]),zv 16 (.pick (.t 12) (.t 15) (.c (.bool false))),zm 2 16]
def qbjb:IC:=zr [zv 17 (zl 5 1),zi 18 (zk 47 [zA 17]),zm 19 18,zw 19 true 20 (zl 5 1),zj 19 true 21 (zk 69 [zA 20]),zv 22 (.pick (.t 19) (.t 21) (.c (.bool false))),zm 2 22]
def k0bl:IC:=(.seq qb2z (.seq (.seq qbzl (.cond (.t 5) (.seq qbi8 .ret) .skip)) (.seq qbjb .ret)))
@[go_sem] def s0bl:List (RV×Co):=[(.t 2,.id)]
theorem c0bl:cFun Tryz.prog 30 = some (23,k0bl,s0bl):=by kernel_rfl

def qb6t:IC:=zr [zi 2 zaN,zv 3 (.mov (zc 0)),zv 4 (.mov (zc 0))]
def qb92:IC:=zr [zm 5 0,zi 6 (zk 59 [zI 5,((.c (.fn 70 [] [])),.id)]),zv 7 (zx 6 0),zv 8 (zx 6 1),zv 9 (zx 6 2),zn (.st 5 zN (.t 2) (.t 7)),zm 3 8,zm 4 9]
def k0d:IC:=(.seq qb6t (.seq qb92 .ret))
@[go_sem] def s0d:List (RV×Co):=[(.c true 5 2,zN),(.t 3,.id),(.t 4,.id)]
theorem c0d:cFun Tryz.prog 31 = some (10,k0d,s0d):=by kernel_rfl

def qbix:IC:=zr [zi 2 (.box (.t 0)),zv 4 (.mov (zc 0))]
def qbq4:IC:=zr [zm 6 1,zv 7 (.bin .sub .no (.t 6) (zc 1)),zm 1 7]
def qbxd:IC:=zr [zv 5 (.mov (zc 0))]
def qblx:IC:=zr [zm 8 5,zv 9 (zd 2 4),zv 10 (zg 1 9),zv 11 (.len false (.t 10)),zv 12 (.bin .lss .no (.t 8) (.t 11)),zm 13 12,zw 13 true 14 (zo 1),zw 13 true 15 (.bin .geq .no (.t 14) (zc 0)),zv 16 (.pick (.t 13) (.t 15) (.c (.bool false)))]
def qb5t:IC:=zr [zv 19 (zd 2 4),zv 20 (zg 1 19),zm 21 5,zv 22 (.iad 5 (.t 20) (.t 21)),zv 23 (zl 5 22),zm 24 1,zi 25 (zk 32 [zA 23,zI 24]),zm 1 25]
def qbk2:IC:=zr [zm 17 5,zv 18 (.bin .add .no (.t 17) (zc 1)),zm 5 18]
def qbky:IC:=(.seq (.seq qblx (.cond (.t 16) .skip (.exit 0))) (.seq (.block 1 qb5t) qbk2))
def qbz9:IC:=zr [zm 26 1,zm 4 26]
def k0ce:IC:=(.seq qbix (.seq qbq4 (.seq (.seq qbxd (.block 0 (.loop qbky))) (.seq qbz9 .ret))))
@[go_sem] def s0ce:List (RV×Co):=[(.t 4,.id)]
theorem c0ce:cFun Tryz.prog 32 = some (27,k0ce,s0ce):=by kernel_rfl

def qcbv:IC:=zr [zv 4 (.mov (.c (.str [])))]
def qb9q:IC:=zr [zm 5 0,zv 6 (.un .not (.t 5))]
def qcae:IC:=zr [zv 4 (.mov (.c (.str [])))]
def qb7p:IC:=zr [zm 7 1,zi 8 (zk 46 [zI 7]),zm 4 8]
def k0e:IC:=(.seq qcbv (.seq (.seq qb9q (.cond (.t 6) (.seq qcae .ret) .skip)) (.seq qb7p .ret)))
@[go_sem] def s0e:List (RV×Co):=[(.t 4,.id)]
theorem c0e:cFun Tryz.prog 33 = some (9,k0e,s0e):=by kernel_rfl

def qbx1:IC:=zr [zi 1 (.box (.t 0)),zv 2 (.mov (.c (.str [])))]
def qb6d:IC:=zr [zv 4 (zd 1 4),zv 5 (zg 1 4),zv 6 (.len false (.t 5)),zv 7 (.bin .sub .no (.t 6) (zc 1)),zm 3 7]
def qbuc:IC:=.drw [zp (zv 8 (zd 1 4)),zp (zv 9 (zg 1 8)),zp (zm 10 3),zp (zv 11 (.slv 5 (.t 9) none (some (.t 10)) none)),(zi 12 (zk 74 [((.t 11),(.sl 5))]),[]),zp (zv 13 (zd 1 4)),(zv 14 (zg 1 13),[4]),zp (zm 15 3),zp (zv 16 (.iad 5 (.t 14) (.t 15))),(zv 17 (zl 5 16),[4]),(zv 18 (.bld [(.int .i64 0),(.int .i64 0),(.int .i64 0),(.str []),.nils] [(0,5,(.t 17))]),[]),(zv 19 (.mki 37 (.t 18) zN),[4]),(zi 20 (zk 46 [zI 19]),[]),zp (zv 21 (.bin .add .no (.t 12) (.t 20))),zp (zm 2 21)]
def k0bc:IC:=(.seq qbx1 (.seq qb6d (.seq qbuc .ret)))
@[go_sem] def s0bc:List (RV×Co):=[(.t 2,.id)]
theorem c0bc:cFun Tryz.prog 36 = some (22,k0bc,s0bc):=by kernel_rfl

def qb9w:IC:=zr [zv 6 (.mov (.c (.str [])))]
def qb9t:IC:=zr [zm 10 0,zv 11 (.len false (.t 10)),zi 12 (.mks 1 (.str []) 16 (.t 11) (.t 11)),zm 7 12]
def qb79:IC:=zr [zm 13 0,zv 14 (.len false (.t 13)),zv 15 (.mov (zc 0))]
def qb7q:IC:=zr [zv 16 (.bin .lss .no (.t 15) (.t 14))]
def qcbn:IC:=zr [zm 17 15,zv 18 (.iad 5 (.t 13) (.t 15)),zv 19 (zl 5 18),zi 9 zaN,zm 8 17,zn (.st 5 zN (.t 9) (.t 19))]
def qb7r:IC:=zr [zm 20 7,zm 21 8,zm 22 2,zv 23 (zl 5 9),zi 24 (.call (.t 22) [zA 23]),zv 25 (.iad 1 (.t 20) (.t 21)),zn (.st 1 .id (.t 25) (.t 24))]
def qcaq:IC:=zr [zv 26 (.bin .add .no (.t 15) (zc 1)),zm 15 26]
def qb78:IC:=(.seq qb7q (.seq (.cond (.t 16) .skip (.exit 0)) (.seq (.block 1 (.seq qcbn qb7r)) qcaq)))
def qb6r:IC:=zr [zm 27 7,zm 28 1,zi 29 (zk 83 [((.t 27),(.sl 1)),zI 28]),zm 6 29]
def k0x:IC:=(.seq qb9w (.seq qb9t (.seq (.seq qb79 (.block 0 (.loop qb78))) (.seq qb6r .ret))))
@[go_sem] def s0x:List (RV×Co):=[(.t 6,.id)]
theorem c0x:cFun Tryz.prog 44 = some (30,k0x,s0x):=by kernel_rfl

def qb8k:IC:=zr [zi 1 (.box (.t 0)),zv 2 (.mov (.c (.str [])))]
def qcbf:IC:=zr [zv 3 (zl 5 1),zv 4 (.bld [(.int .i64 0),(.int .i64 0),(.int .i64 0),(.str []),.nils] [(0,5,(.t 3))]),zv 5 (.mki 40 (.t 4) zN),zi 6 (zk 46 [zI 5]),zv 7 (.bin .add .no (.t 6) (.c (.str [59,10]))),zm 2 7]
def k0l:IC:=(.seq qb8k (.seq qcbf .ret))
@[go_sem] def s0l:List (RV×Co):=[(.t 2,.id)]
theorem c0l:cFun Tryz.prog 45 = some (8,k0l,s0l):=by kernel_rfl

def qcch:IC:=zr [zv 2 (.mov (.c (.str [])))]
def qb6m:IC:=zr [zm 7 0]
def qb9u:IC:=zr [zv 8 (.tya 37 zZ (.t 7)),zv 9 (zx 8 1),zv 10 (zx 8 0)]
def qb7t:IC:=zr [zi 3 zaN,zn (.st 5 zN (.t 3) (.t 10))]
def qccd:IC:=zr [zv 11 (zl 5 3),zi 12 (zk 84 [zA 11]),zm 2 12]
def qcam:IC:=zr [zv 13 (.tya 38 zZ (.t 7)),zv 14 (zx 13 1),zv 15 (zx 13 0)]
def qb6v:IC:=zr [zi 4 zaN,zn (.st 5 zN (.t 4) (.t 15))]
def qca9:IC:=zr [zv 16 (zl 5 4),zi 17 (zk 85 [zA 16]),zm 2 17]
def qb6s:IC:=zr [zv 18 (.tya 39 zZ (.t 7)),zv 19 (zx 18 1),zv 20 (zx 18 0)]
def qb9o:IC:=zr [zi 5 zaN,zn (.st 5 zN (.t 5) (.t 20))]
def qbll:IC:=zr [zv 21 (zl 5 5),zi 22 (zk 86 [zA 21]),zm 2 22]
def qblj:IC:=zr [zv 23 (.tya 40 zZ (.t 7)),zv 24 (zx 23 1),zv 25 (zx 23 0)]
def qbjd:IC:=zr [zi 6 zaN,zn (.st 5 zN (.t 6) (.t 25))]
def qb3e:IC:=zr [zv 26 (zl 5 6),zi 27 (zk 87 [zA 26]),zm 2 27]
def qbnq:IC:=zr [zv 2 (.mov (.c (.str [])))]
def k0p:IC:=(.seq qcch (.seq (.seq qb6m (.block 0 (.seq qb9u (.cond (.t 9) (.seq qb7t (.seq qccd .ret)) (.seq qcam (.cond (.t 14) (.seq qb6v (.seq qca9 .ret)) (.seq qb6s (.cond (.t 19) (.seq qb9o (.seq qbll .ret)) (.seq qblj (.cond (.t 24) (.seq qbjd (.seq qb3e .ret)) .skip)))))))))) (.seq qbnq .ret)))
@[go_sem] def s0p:List (RV×Co):=[(.t 2,.id)]
theorem c0p:cFun Tryz.prog 46 = some (28,k0p,s0p):=by kernel_rfl

def qbjo:IC:=zr [zi 1 (.box (.t 0)),zi 2 (.alo [(.bool false)])]
def qb4f:IC:=zr [zv 4 (zl 5 1),zi 5 (zk 88 [zA 4,((zc 1),.id)])]
def qboi:IC:=zr [zm 8 3,zv 9 (.bin .gtr .no (.t 8) (zc 100))]
def qblc:IC:=zr [zn (.st 1 .id (.t 2) (.c (.bool false)))]
def q4z:IC:=(.block 1 (.seq qboi (.cond (.t 9) (.seq qblc .ret) .skip)))
def q4q:IC:=zr [zm 3 6]
def qb5r:IC:=zr [zn (.st 1 .id (.t 2) (.c (.bool true)))]
def k0by:IC:=(.seq qbjo (.seq (.seq qb4f (.block 0 (.rng (.t 5) [6,7] q4q q4z))) (.seq qb5r .ret)))
@[go_sem] def s0by:List (RV×Co):=[(.c false 1 2,.id)]
theorem c0by:cFun Tryz.prog 47 = some (10,k0by,s0by):=by kernel_rfl

def qbso:IC:=zr [zi 1 (.box (.t 0)),zv 2 zf]
def qbi9:IC:=zr [zv 4 (zd 1 0),zv 5 (zg 1 4),zv 6 (zq (.t 5) (zc 1)),zm 3 6]
def qb28:IC:=zr [zv 7 (zl 5 1),zi 8 (zk 89 [zA 7,((.c (.fn 90 [] [])),.id)]),zm 9 8,zw 9 true 10 (zd 1 4),zw 9 true 11 (zg 1 10),zw 9 true 12 (.len false (.t 11)),zw 9 true 13 (zq (.t 12) (zc 0)),zv 14 (.pick (.t 9) (.t 13) (.c (.bool false))),zm 2 14]
def qb0o:IC:=zr [zv 16 (zd 1 0),zv 17 (zg 1 16),zv 18 (.bin .neq .no (.t 17) (zc 2)),zm 19 18,zw 19 false 20 (zd 1 2),zw 19 false 21 (zg 1 20),zw 19 false 22 (.bin .neq .no (.t 21) (zc 0)),zv 23 (.pick (.t 19) (.c (.bool true)) (.t 22)),zm 15 23]
def qbpn:IC:=zr [zv 2 zf]
def qbqv:IC:=zr [zv 25 (zd 1 3),zv 26 (zg 1 25),zv 27 (zq (.t 26) (.c (.str [45,62]))),zm 24 27]
def qbvr:IC:=zr [zv 28 (zd 1 4),zv 29 (zg 1 28),zv 30 (.len false (.t 29)),zv 31 (zq (.t 30) (zc 2)),zm 32 31,zw 32 true 33 (zd 1 4),zw 32 true 34 (zg 1 33),zj 32 true 35 (zk 68 [((.t 34),(.sl 5)),((.c (.fn 48 [] [])),.id)]),zv 36 (.pick (.t 32) (.t 35) (.c (.bool false))),zm 2 36]
def qbtk:IC:=zr [zv 37 (zd 1 3),zv 38 (zg 1 37),zi 39 (zk 91 [zI 38]),zm 40 39,zw 40 true 41 (zd 1 4),zw 40 true 42 (zg 1 41),zj 40 true 43 (zk 68 [((.t 42),(.sl 5)),((.c (.fn 48 [] [])),.id)]),zv 44 (.pick (.t 40) (.t 43) (.c (.bool false))),zm 2 44]
def k0bq:IC:=(.seq qbso (.seq (.block 0 (.seq qbi9 (.cond (.t 3) (.seq qb28 .ret) (.seq qb0o (.cond (.t 15) (.seq qbpn .ret) (.seq qbqv (.cond (.t 24) (.seq qbvr .ret) .skip))))))) (.seq qbtk .ret)))
@[go_sem] def s0bq:List (RV×Co):=[(.t 2,.id)]
theorem c0bq:cFun Tryz.prog 48 = some (45,k0bq,s0bq):=by kernel_rfl

def qbsx:IC:=zr [zi 2 (.box (.t 0)),zi 4 zaN,zv 5 zf]
def qb4p:IC:=zr [zv 6 (zd 2 0),zv 7 (zg 1 6)]
def qbp3:IC:=zr [zm 8 1,zi 9 (zk 92 [zI 8]),zv 10 (zx 9 0),zv 11 (zx 9 1),zn (.st 5 zN (.t 4) (.t 10)),zm 5 11]
def qbsj:IC:=zr [zm 12 1,zi 13 (zk 93 [zI 12]),zv 14 (zx 13 0),zv 15 (zx 13 1),zn (.st 5 zN (.t 4) (.t 14)),zm 5 15]
def k0dx:IC:=(.seq qbsx (.seq (.seq qb4p (.cond (.t 7) (.seq qbp3 .ret) .skip)) (.seq qbsj .ret)))
@[go_sem] def s0dx:List (RV×Co):=[(.c true 5 4,zN),(.t 5,.id)]
theorem c0dx:cFun Tryz.prog 49 = some (16,k0dx,s0dx):=by kernel_rfl

def qb11:IC:=zr [zi 4 zaN,zv 5 (.mov (zc 0)),zv 6 (.mov (zc 0))]
def qbrk:IC:=zr [zm 16 0,zi 17 (zk 52 [zI 16]),zm 15 17,zv 18 (zx 15 0),zv 19 (zx 15 1),zv 20 (zx 15 2),zm 7 18,zm 8 19,zm 9 20]
def qb44:IC:=zr [zm 21 9,zv 22 (.bin .neq .no (.t 21) (zc 0))]
def qbsa:IC:=zr [zv 23 (.bld [(.int .i64 0),(.int .i64 0),(.int .i64 0),(.str []),.nils] []),zm 24 8,zm 25 9,zn (.st 5 zN (.t 4) (.t 23)),zm 5 24,zm 6 25]
def qbrq:IC:=zr [zm 26 7,zi 27 (zk 53 [((.t 26),(.sl 4))]),zm 10 27]
def qbkf:IC:=zr [zm 29 1,zm 30 10,zi 31 (.call (.t 29) [zI 30]),zm 28 31,zv 32 (zx 28 0),zv 33 (zx 28 1),zi 11 zaN,zn (.st 5 zN (.t 11) (.t 32)),zm 12 33]
def qbku:IC:=zr [zm 35 10,zi 36 (zk 55 [zI 35]),zm 34 36,zv 37 (zx 34 0),zv 38 (zx 34 1),zm 13 37,zm 14 38]
def qbq6:IC:=zr [zm 40 14,zv 41 (.bin .neq .no (.t 40) (zc 0)),zm 39 41]
def qbwj:IC:=zr [zv 42 (.bld [(.int .i64 0),(.int .i64 0),(.int .i64 0),(.str []),.nils] []),zm 43 13,zm 44 14,zn (.st 5 zN (.t 4) (.t 42)),zm 5 43,zm 6 44]
def qbr0:IC:=zr [zv 46 (zl 5 11),zi 47 (zk 56 [zA 46]),zv 48 (.bin .gtr .no (.t 47) (zc 100)),zm 45 48]
def qbec:IC:=.drw [(zv 49 (.bld [(.int .i64 0),(.int .i64 0),(.int .i64 0),(.str []),.nils] []),[]),zp (zv 50 (zd 11 1)),zp (zv 51 (zg 1 50)),(zn (.st 5 zN (.t 4) (.t 49)),[2]),zp (zm 5 51),zp (zv 6 (.mov (zc 2)))]
def qbdh:IC:=zr [zv 52 (zl 5 11),zn (.st 5 zN (.t 4) (.t 52)),zv 5 (.mov (zc 0)),zv 6 (.mov (zc 0))]
def k0dw:IC:=(.seq qb11 (.seq qbrk (.seq (.seq qb44 (.cond (.t 22) (.seq qbsa .ret) .skip)) (.seq qbrq (.seq qbkf (.seq (.seq qbku (.block 0 (.seq qbq6 (.cond (.t 39) (.seq qbwj .ret) (.seq qbr0 (.cond (.t 45) (.seq qbec .ret) .skip)))))) (.seq qbdh .ret)))))))
@[go_sem] def s0dw:List (RV×Co):=[(.c true 5 4,zN),(.t 5,.id),(.t 6,.id)]
theorem c0dw:cFun Tryz.prog 50 = some (53,k0dw,s0dw):=by kernel_rfl

def qbuq:IC:=zr [zi 1 (.box (.t 0)),zv 2 zf]
def qbjv:IC:=zr [zv 3 (zd 1 0),zv 4 (zg 1 3)]
def qbq0:IC:=zr [zv 6 (zq (.t 4) (zc 11)),zm 5 6]
def qblk:IC:=zr [zv 7 (zl 5 1),zi 8 (zk 89 [zA 7,((.c (.fn 90 [] [])),.id)]),zm 9 8,zw 9 true 10 (zd 1 4),zw 9 true 11 (zg 1 10),zw 9 true 12 (.len false (.t 11)),zw 9 true 13 (zq (.t 12) (zc 0)),zv 14 (.pick (.t 9) (.t 13) (.c (.bool false))),zm 2 14]
def qbu8:IC:=zr [zv 16 (zq (.t 4) (zc 12)),zm 15 16]
def qb1z:IC:=zr [zv 17 (zl 5 1),zi 18 (zk 67 [zA 17]),zm 19 18,zw 19 true 20 (zd 1 4),zw 19 true 21 (zg 1 20),zw 19 true 22 (.len false (.t 21)),zw 19 true 23 (zq (.t 22) (zc 0)),zv 24 (.pick (.t 19) (.t 23) (.c (.bool false))),zm 2 24]
def qbq7:IC:=zr [zv 26 (zq (.t 4) (zc 13)),zm 25 26]
def qbuo:IC:=zr [zv 27 (zd 1 3),zv 28 (zg 1 27),zv 29 (zq (.t 28) (.c (.str []))),zm 30 29,zw 30 true 31 (zd 1 2),zw 30 true 32 (zg 1 31),zw 30 true 33 (.bin .geq .no (.t 32) (zc 0)),zv 34 (.pick (.t 30) (.t 33) (.c (.bool false))),zm 35 34,zw 35 true 36 (zd 1 4),zw 35 true 37 (zg 1 36),zw 35 true 38 (.len false (.t 37)),zw 35 true 39 (zq (.t 38) (zc 0)),zv 40 (.pick (.t 35) (.t 39) (.c (.bool false))),zm 2 40]
def qbiy:IC:=zr [zv 42 (zq (.t 4) (zc 14)),zm 41 42]
def qbru:IC:=zr [zv 43 (zl 5 1),zi 44 (zk 89 [zA 43,((.c (.fn 91 [] [])),.id)]),zm 45 44,zw 45 true 46 (zd 1 4),zw 45 true 47 (zg 1 46),zj 45 true 48 (zk 68 [((.t 47),(.sl 5)),((.c (.fn 51 [] [])),.id)]),zv 49 (.pick (.t 45) (.t 48) (.c (.bool false))),zm 2 49]
def qbgg:IC:=zr [zv 2 zf]
def k0br:IC:=(.seq qbuq (.seq (.seq qbjv (.block 0 (.seq qbq0 (.cond (.t 5) (.seq qblk .ret) (.seq qbu8 (.cond (.t 15) (.seq qb1z .ret) (.seq qbq7 (.cond (.t 25) (.seq qbuo .ret) (.seq qbiy (.cond (.t 41) (.seq qbru .ret) .skip)))))))))) (.seq qbgg .ret)))
@[go_sem] def s0br:List (RV×Co):=[(.t 2,.id)]
theorem c0br:cFun Tryz.prog 51 = some (50,k0br,s0br):=by kernel_rfl

def qbo4:IC:=zr [zi 2 (.alo [.nils]),zi 3 (.alo [(.int .i64 0)]),zi 4 (.alo [(.int .i64 0)])]
def qb01:IC:=zr [zm 8 0,zv 9 (.len true (.t 8)),zv 10 (.bin .gtr .no (.t 9) (zc 1048576))]
def qb1q:IC:=zr [zn (.st 1 (.sl 4) (.t 2) (.c .nils)),zn (.st 1 .id (.t 3) (zc 0)),zn (.st 1 .id (.t 4) (zc 2))]
def qbvf:IC:=zr [zi 5 (.alo [.nils])]
def qbzv:IC:=zr [zm 11 0,zi 12 (zk 94 [zI 11])]
def qbkg:IC:=zr [zm 15 7,zv 16 (.bin .neq .no (.t 15) (zc 0))]
def qbxv:IC:=.drw [zp (zv 17 (zd 6 1)),zp (zv 18 (zg 1 17)),zp (zm 19 7),(zn (.st 1 (.sl 4) (.t 2) (.c .nils)),[1]),(zn (.st 1 .id (.t 3) (.t 18)),[]),(zn (.st 1 .id (.t 4) (.t 19)),[])]
def qby3:IC:=zr [zv 20 (zg 1 5),zv 21 (zl 4 6),zv 22 (.bsl 4 [zI 21]),zi 23 (.app 4 (.agg [(.int .i64 0),(.int .i64 0),(.int .i64 0),(.str [])]) 40 (.sl 4) (.t 20) (.t 22)),zn (.st 1 (.sl 4) (.t 5) (.t 23))]
def qww:IC:=(.block 1 (.seq (.seq qbkg (.cond (.t 16) (.seq qbxv .ret) .skip)) qby3))
def qto:IC:=zr [zi 6 zaT,zn (.st 4 .id (.t 6) (.t 13))]
def qtf:IC:=zr [zm 7 14]
def q90:IC:=zr [zv 24 (zg 1 5),zm 25 0,zv 26 (.len true (.t 25)),zv 27 (.bld [(.int .i64 0),(.int .i64 0),(.int .i64 0),(.str [])] [(0,1,(zc 0)),(1,1,(.t 26))]),zv 28 (.bsl 4 [zI 27]),zi 29 (.app 4 (.agg [(.int .i64 0),(.int .i64 0),(.int .i64 0),(.str [])]) 40 (.sl 4) (.t 24) (.t 28)),zn (.st 1 (.sl 4) (.t 2) (.t 29)),zn (.st 1 .id (.t 3) (zc 0)),zn (.st 1 .id (.t 4) (zc 0))]
def k0cr:IC:=(.seq qbo4 (.seq (.seq qb01 (.cond (.t 10) (.seq qb1q .ret) .skip)) (.seq qbvf (.seq (.seq qbzv (.block 0 (.rng (.t 12) [13,14] (.seq qto qtf) qww))) (.seq q90 .ret)))))
@[go_sem] def s0cr:List (RV×Co):=[(.c false 1 2,(.sl 4)),(.c false 1 3,.id),(.c false 1 4,.id)]
theorem c0cr:cFun Tryz.prog 52 = some (30,k0cr,s0cr):=by kernel_rfl

def qbqf:IC:=zr [zv 2 (.mov (.c .nilp))]
def qbzs:IC:=zr [zv 6 (.bld [.nils,(.int .i64 0),(.int .i64 0),(.int .i64 0),(.str []),(.int .i64 0),(.int .i64 0),(.int .i64 0),(.int .i64 0)] []),zi 7 (.box (.t 6)),zm 3 7]
def qbrl:IC:=zr [zm 8 0,zv 9 (.len false (.t 8)),zv 10 (.mov (zc 0))]
def qbom:IC:=zr [zv 11 (.bin .lss .no (.t 10) (.t 9))]
def qbqy:IC:=zr [zv 12 (.iad 4 (.t 8) (.t 10)),zv 13 (zl 4 12),zi 5 zaT,zn (.st 4 .id (.t 5) (.t 13))]
def qbz6:IC:=zr [zv 14 (zd 5 0),zv 15 (zg 1 14),zv 16 (zq (.t 15) (zc 0))]
def qbj1:IC:=zr [zm 17 3,zv 18 (zd 5 1),zv 19 (zg 1 18),zv 20 (.nck (.t 17)),zv 21 (zd 20 1),zv 22 (zd 21 1),zn (.st 1 .id (.t 22) (.t 19))]
def qbi6:IC:=.drw [zp (zm 23 3),zp (zm 24 3),zp (zv 25 (.nck (.t 24))),zp (zv 26 (zd 25 0)),zp (zv 27 (zg 1 26)),zp (zv 28 (zl 4 5)),(zv 29 (.bsl 4 [zI 28]),[]),(zi 30 (.app 4 (.agg [(.int .i64 0),(.int .i64 0),(.int .i64 0),(.str [])]) 40 (.sl 4) (.t 27) (.t 29)),[]),zp (zv 31 (.nck (.t 23))),zp (zv 32 (zd 31 0)),(zn (.st 1 (.sl 4) (.t 32) (.t 30)),[])]
def qbrz:IC:=zr [zv 33 (.bin .add .no (.t 10) (zc 1)),zm 10 33]
def qboq:IC:=(.seq qbom (.seq (.cond (.t 11) .skip (.exit 0)) (.seq (.block 1 (.seq qbqy (.seq (.seq qbz6 (.cond (.t 16) (.seq qbj1 (.exit 0)) .skip)) qbi6))) qbrz)))
def qbbm:IC:=zr [zm 34 3,zm 2 34]
def k0ei:IC:=(.seq qbqf (.seq qbzs (.seq (.seq qbrl (.block 0 (.loop qboq))) (.seq qbbm .ret))))
@[go_sem] def s0ei:List (RV×Co):=[(.t 2,.id)]
theorem c0ei:cFun Tryz.prog 53 = some (35,k0ei,s0ei):=by kernel_rfl

def qb4r:IC:=zr [zi 2 zaN,zv 3 zf]
def qbqz:IC:=zr [zm 8 0,zi 9 (zk 95 [zI 8]),zv 10 (.un .not (.t 9))]
def qbq3:IC:=zr [zv 11 (.bld [(.int .i64 0),(.int .i64 0),(.int .i64 0),(.str []),.nils] []),zn (.st 5 zN (.t 2) (.t 11)),zv 3 zf]
def qbje:IC:=zr [zm 12 0,zi 13 (zk 66 [zI 12]),zv 14 (.fld false 1 0 (.t 13)),zv 15 (zq (.t 14) (zc 2)),zm 4 15]
def qbu0:IC:=zr [zm 17 0,zi 18 (zk 96 [zI 17]),zm 16 18,zv 19 (zx 16 0),zv 20 (zx 16 1),zi 5 zaN,zn (.st 5 zN (.t 5) (.t 19)),zm 6 20]
def qbkz:IC:=zr [zm 21 6,zm 22 21,zw 22 true 23 (zo 4),zv 24 (.pick (.t 22) (.t 23) (.c (.bool false))),zm 25 24,zw 25 true 26 (zo 0),zj 25 true 27 (zk 97 [zI 26]),zv 28 (.pick (.t 25) (.t 27) (.c (.bool false)))]
def qbmp:IC:=zr [zi 7 zaN]
def qbs3:IC:=zr [zm 30 0,zi 31 (zk 96 [zI 30]),zm 29 31,zv 32 (zx 29 0),zv 33 (zx 29 1),zn (.st 5 zN (.t 7) (.t 32)),zm 6 33]
def qbv7:IC:=zr [zm 34 6]
def qbde:IC:=zr [zv 35 (zd 5 4),zv 36 (zg 1 35),zv 37 (zl 5 7),zv 38 (.bsl 5 [zA 37]),zi 39 (.app 5 zZ 64 (.sl 5) (.t 36) (.t 38)),zv 40 (zd 5 4),zn (.st 1 (.sl 5) (.t 40) (.t 39))]
def qbxb:IC:=(.seq (.seq qbkz (.cond (.t 28) .skip (.exit 0))) (.block 1 (.seq qbmp (.seq qbs3 (.seq qbv7 (.cond (.t 34) qbde .skip))))))
def q94:IC:=zr [zm 41 0,zi 42 (zk 98 [zI 41])]
def qbfb:IC:=zr [zm 43 6,zv 44 (.un .not (.t 43))]
def q98:IC:=zr [zv 45 (.bld [(.int .i64 0),(.int .i64 0),(.int .i64 0),(.str []),.nils] []),zn (.st 5 zN (.t 2) (.t 45)),zv 3 zf]
def qbay:IC:=zr [zv 46 (zl 5 5),zn (.st 5 zN (.t 2) (.t 46)),zv 3 (.mov (.c (.bool true)))]
def k0dv:IC:=(.seq qb4r (.seq (.seq qbqz (.cond (.t 10) (.seq qbq3 .ret) .skip)) (.seq qbje (.seq qbu0 (.seq (.block 0 (.loop qbxb)) (.seq q94 (.seq (.seq qbfb (.cond (.t 44) (.seq q98 .ret) .skip)) (.seq qbay .ret))))))))
@[go_sem] def s0dv:List (RV×Co):=[(.c true 5 2,zN),(.t 3,.id)]
theorem c0dv:cFun Tryz.prog 54 = some (47,k0dv,s0dv):=by kernel_rfl

def qbov:IC:=zr [zv 2 (.mov (zc 0)),zv 3 (.mov (zc 0))]
def qbx2:IC:=zr [zm 5 0,zv 6 (.bin .eql .ptr (.t 5) (.c .nilp)),zm 4 6]
def qb0n:IC:=zr [zv 2 (.mov (zc 0)),zv 3 (.mov (zc 1))]
def qbm8:IC:=zr [zm 8 0,zv 9 (.nck (.t 8)),zv 10 (zd 9 7),zv 11 (zg 1 10),zv 12 (.bin .neq .no (.t 11) (zc 0)),zm 7 12]
def qbre:IC:=.drw [zp (zm 13 0),zp (zv 14 (.nck (.t 13))),zp (zv 15 (zd 14 8)),zp (zv 16 (zg 1 15)),zp (zm 17 0),zp (zv 18 (.nck (.t 17))),zp (zv 19 (zd 18 7)),zp (zv 20 (zg 1 19)),zp (zm 2 16),zp (zm 3 20)]
def qb41:IC:=.drw [zp (zm 22 0),zp (zv 23 (.nck (.t 22))),zp (zv 24 (zd 23 5)),zp (zv 25 (zg 1 24)),zp (zm 26 0),zp (zv 27 (.nck (.t 26))),zp (zv 28 (zd 27 0)),zp (zv 29 (zg 1 28)),zp (zv 30 (.len false (.t 29))),zp (zv 31 (.bin .lss .no (.t 25) (.t 30))),zp (zm 21 31)]
def qb3c:IC:=.drw [zp (zm 32 0),zp (zv 33 (.nck (.t 32))),zp (zv 34 (zd 33 0)),zp (zv 35 (zg 1 34)),zp (zm 36 0),zp (zv 37 (.nck (.t 36))),zp (zv 38 (zd 37 5)),zp (zv 39 (zg 1 38)),zp (zv 40 (.iad 4 (.t 35) (.t 39))),zp (zv 41 (zd 40 1)),zp (zv 42 (zg 1 41)),zp (zm 2 42),zp (zv 3 (.mov (zc 5)))]
def qbvo:IC:=zr [zm 43 0,zv 44 (.nck (.t 43)),zv 45 (zd 44 1),zv 46 (zd 45 1),zv 47 (zg 1 46),zm 2 47,zv 3 (.mov (zc 0))]
def k0et:IC:=(.seq qbov (.seq (.block 0 (.seq qbx2 (.cond (.t 4) (.seq qb0n .ret) (.seq qbm8 (.cond (.t 7) (.seq qbre .ret) (.seq qb41 (.cond (.t 21) (.seq qb3c .ret) .skip))))))) (.seq qbvo .ret)))
@[go_sem] def s0et:List (RV×Co):=[(.t 2,.id),(.t 3,.id)]
theorem c0et:cFun Tryz.prog 55 = some (48,k0et,s0et):=by kernel_rfl

def qb2n:IC:=zr [zi 1 (.box (.t 0)),zv 2 (.mov (zc 0))]
def qbp0:IC:=zr [zi 3 (.alo [(.int .i64 0)]),zn (.st 1 .id (.t 3) (zc 0))]
def qbws:IC:=zr [zv 5 (zl 5 1),zi 6 (zk 88 [zA 5,((zc 1),.id)])]
def qbo1:IC:=zr [zv 9 (zg 1 3),zm 10 4,zv 11 (.mm true (.t 9) (.t 10)),zn (.st 1 .id (.t 3) (.t 11))]
def q5q:IC:=(.block 1 qbo1)
def q8v:IC:=zr [zm 4 7]
def qbpi:IC:=zr [zv 12 (zg 1 3),zm 2 12]
def k0cd:IC:=(.seq qb2n (.seq qbp0 (.seq (.seq qbws (.block 0 (.rng (.t 6) [7,8] q8v q5q))) (.seq qbpi .ret))))
@[go_sem] def s0cd:List (RV×Co):=[(.t 2,.id)]
theorem c0cd:cFun Tryz.prog 56 = some (13,k0cd,s0cd):=by kernel_rfl

def qbqq:IC:=zr [zi 1 (.box (.t 0)),zv 2 zf]
def qb0d:IC:=zr [zv 5 (zd 1 4),zv 6 (zg 1 5),zv 7 (.len false (.t 6)),zm 3 7]
def qbpz:IC:=zr [zv 8 (zd 1 0),zv 9 (zg 1 8)]
def qbu1:IC:=zr [zv 11 (zq (.t 9) (zc 21)),zm 10 11]
def qbmx:IC:=zr [zv 12 (zl 5 1),zi 13 (zk 89 [zA 12,((.c (.fn 90 [] [])),.id)]),zm 14 13,zw 14 true 15 (zo 3),zw 14 true 16 (zq (.t 15) (zc 0)),zv 17 (.pick (.t 14) (.t 16) (.c (.bool false))),zm 2 17]
def qb5l:IC:=zr [zv 19 (zq (.t 9) (zc 22)),zm 18 19]
def qb3f:IC:=zr [zv 20 (zl 5 1),zi 21 (zk 89 [zA 20,((.c (.fn 91 [] [])),.id)]),zm 22 21,zw 22 true 23 (zo 3),zw 22 true 24 (zq (.t 23) (zc 0)),zv 25 (.pick (.t 22) (.t 24) (.c (.bool false))),zm 2 25]
def qbs1:IC:=zr [zv 27 (zq (.t 9) (zc 23)),zm 26 27]
def qblq:IC:=zr [zv 28 (zd 1 3),zv 29 (zg 1 28),zv 30 (zq (.t 29) (.c (.str []))),zm 31 30,zw 31 true 32 (zd 1 2),zw 31 true 33 (zg 1 32),zw 31 true 34 (.bin .geq .no (.t 33) (zc 0)),zv 35 (.pick (.t 31) (.t 34) (.c (.bool false))),zm 36 35,zw 36 true 37 (zo 3),zw 36 true 38 (zq (.t 37) (zc 0)),zv 39 (.pick (.t 36) (.t 38) (.c (.bool false))),zm 2 39]
def qbjp:IC:=zr [zv 41 (zq (.t 9) (zc 24)),zm 40 41]
def qbeh:IC:=zr [zv 42 (zl 5 1),zi 43 (zk 67 [zA 42]),zm 44 43,zw 44 true 45 (zo 3),zw 44 true 46 (zq (.t 45) (zc 2)),zv 47 (.pick (.t 44) (.t 46) (.c (.bool false))),zm 48 47,zw 48 true 49 (zd 1 4),zw 48 true 50 (zg 1 49),zj 48 true 51 (zk 68 [((.t 50),(.sl 5)),((.c (.fn 57 [] [])),.id)]),zv 52 (.pick (.t 48) (.t 51) (.c (.bool false))),zm 2 52]
def qbfh:IC:=zr [zv 54 (zq (.t 9) (zc 25)),zm 53 54]
def qbav:IC:=zr [zv 55 (zl 5 1),zi 56 (zk 89 [zA 55,((.c (.fn 90 [] [])),.id)]),zm 57 56,zw 57 true 58 (zo 3),zw 57 true 59 (zq (.t 58) (zc 1)),zv 60 (.pick (.t 57) (.t 59) (.c (.bool false))),zm 61 60,zw 61 true 62 (zd 1 4),zw 61 true 63 (zg 1 62),zw 61 true 64 (.iad 5 (.t 63) (zc 0)),zw 61 true 65 (zl 5 64),zj 61 true 66 (zk 57 [zA 65]),zv 67 (.pick (.t 61) (.t 66) (.c (.bool false))),zm 2 67]
def qbgk:IC:=zr [zv 69 (zq (.t 9) (zc 26)),zm 68 69]
def qbes:IC:=zr [zv 4 (.mov (.c (.fn 99 [] [])))]
def qbf8:IC:=zr [zv 70 (zl 5 1),zi 71 (zk 67 [zA 70]),zm 72 71,zw 72 true 73 (zo 3),zw 72 true 74 (.bin .geq .no (.t 73) (zc 2)),zv 75 (.pick (.t 72) (.t 74) (.c (.bool false))),zm 76 75,zw 76 true 77 (zd 1 4),zw 76 true 78 (zg 1 77),zw 76 true 79 (zo 3),zw 76 true 80 (.bin .sub .no (.t 79) (zc 1)),zw 76 true 81 (.slv 5 (.t 78) none (some (.t 80)) none),zw 76 true 82 (zo 4),zj 76 true 83 (zk 68 [((.t 81),(.sl 5)),zI 82]),zv 84 (.pick (.t 76) (.t 83) (.c (.bool false))),zm 85 84,zw 85 true 86 (zd 1 4),zw 85 true 87 (zg 1 86),zw 85 true 88 (zo 3),zw 85 true 89 (.bin .sub .no (.t 88) (zc 1)),zw 85 true 90 (.iad 5 (.t 87) (.t 89)),zw 85 true 91 (zl 5 90),zj 85 true 92 (zk 57 [zA 91]),zv 93 (.pick (.t 85) (.t 92) (.c (.bool false))),zm 2 93]
def qbak:IC:=zr [zv 95 (zq (.t 9) (zc 27)),zm 94 95]
def qbag:IC:=zr [zv 96 (zl 5 1),zi 97 (zk 67 [zA 96]),zm 98 97,zw 98 true 99 (zo 3),zw 98 true 100 (.bin .geq .no (.t 99) (zc 2)),zv 101 (.pick (.t 98) (.t 100) (.c (.bool false))),zm 102 101,zw 102 true 103 (zd 1 4),zw 102 true 104 (zg 1 103),zw 102 true 105 (.iad 5 (.t 104) (zc 0)),zw 102 true 106 (zl 5 105),zj 102 true 107 (zk 57 [zA 106]),zv 108 (.pick (.t 102) (.t 107) (.c (.bool false))),zm 109 108,zw 109 true 110 (zd 1 4),zw 109 true 111 (zg 1 110),zw 109 true 112 (.slv 5 (.t 111) (some (zc 1)) none none),zj 109 true 113 (zk 68 [((.t 112),(.sl 5)),((.c (.fn 102 [] [])),.id)]),zv 114 (.pick (.t 109) (.t 113) (.c (.bool false))),zm 2 114]
def qbdu:IC:=zr [zv 116 (zq (.t 9) (zc 28)),zm 115 116]
def qbgc:IC:=zr [zv 117 (zl 5 1),zi 118 (zk 67 [zA 117]),zm 119 118,zw 119 true 120 (zo 3),zw 119 true 121 (zq (.t 120) (zc 3)),zv 122 (.pick (.t 119) (.t 121) (.c (.bool false))),zm 123 122,zw 123 true 124 (zd 1 4),zw 123 true 125 (zg 1 124),zj 123 true 126 (zk 68 [((.t 125),(.sl 5)),((.c (.fn 57 [] [])),.id)]),zv 127 (.pick (.t 123) (.t 126) (.c (.bool false))),zm 2 127]
def qbea:IC:=zr [zv 2 zf]
def k0bn:IC:=(.seq qbqq (.seq qb0d (.seq (.seq qbpz (.block 0 (.seq qbu1 (.cond (.t 10) (.seq qbmx .ret) (.seq qb5l (.cond (.t 18) (.seq qb3f .ret) (.seq qbs1 (.cond (.t 26) (.seq qblq .ret) (.seq qbjp (.cond (.t 40) (.seq qbeh .ret) (.seq qbfh (.cond (.t 53) (.seq qbav .ret) (.seq qbgk (.cond (.t 68) (.seq qbes (.seq qbf8 .ret)) (.seq qbak (.cond (.t 94) (.seq qbag .ret) (.seq qbdu (.cond (.t 115) (.seq qbgc .ret) .skip)))))))))))))))))) (.seq qbea .ret))))
@[go_sem] def s0bn:List (RV×Co):=[(.t 2,.id)]
theorem c0bn:cFun Tryz.prog 57 = some (128,k0bn,s0bn):=by kernel_rfl

def qbzy:IC:=zr [zi 2 zaN,zv 3 zf]
def qbtb:IC:=zr [zm 6 0,zi 7 (zk 95 [zI 6]),zv 8 (.un .not (.t 7))]
def qbkn:IC:=zr [zv 9 (.bld [(.int .i64 0),(.int .i64 0),(.int .i64 0),(.str []),.nils] []),zn (.st 5 zN (.t 2) (.t 9)),zv 3 zf]
def qbzw:IC:=zr [zm 11 0,zi 12 (zk 103 [zI 11]),zm 10 12,zv 13 (zx 10 0),zv 14 (zx 10 1),zi 4 zaN,zn (.st 5 zN (.t 4) (.t 13)),zm 5 14]
def qbry:IC:=zr [zm 15 0,zi 16 (zk 98 [zI 15])]
def qbmh:IC:=zr [zm 17 5,zv 18 (.un .not (.t 17))]
def qbsz:IC:=zr [zv 19 (.bld [(.int .i64 0),(.int .i64 0),(.int .i64 0),(.str []),.nils] []),zn (.st 5 zN (.t 2) (.t 19)),zv 3 zf]
def qb6e:IC:=zr [zv 20 (zl 5 4),zn (.st 5 zN (.t 2) (.t 20)),zv 3 (.mov (.c (.bool true)))]
def k0de:IC:=(.seq qbzy (.seq (.seq qbtb (.cond (.t 8) (.seq qbkn .ret) .skip)) (.seq qbzw (.seq qbry (.seq (.seq qbmh (.cond (.t 18) (.seq qbsz .ret) .skip)) (.seq qb6e .ret))))))
@[go_sem] def s0de:List (RV×Co):=[(.c true 5 2,zN),(.t 3,.id)]
theorem c0de:cFun Tryz.prog 58 = some (21,k0de,s0de):=by kernel_rfl

def qcao:IC:=zr [zi 4 zaN,zv 5 (.mov (zc 0)),zv 6 (.mov (zc 0))]
def qb91:IC:=zr [zm 15 0,zi 16 (zk 52 [zI 15]),zm 14 16,zv 17 (zx 14 0),zv 18 (zx 14 1),zv 19 (zx 14 2),zm 7 17,zm 8 18,zm 9 19]
def qccf:IC:=zr [zm 20 9,zv 21 (.bin .neq .no (.t 20) (zc 0))]
def qb7y:IC:=zr [zv 22 (.bld [(.int .i64 0),(.int .i64 0),(.int .i64 0),(.str []),.nils] []),zm 23 8,zm 24 9,zn (.st 5 zN (.t 4) (.t 22)),zm 5 23,zm 6 24]
def qccb:IC:=zr [zm 25 7,zi 26 (zk 53 [((.t 25),(.sl 4))]),zm 10 26]
def qb7d:IC:=zr [zm 27 1,zm 28 10,zi 29 (.call (.t 27) [zI 28]),zi 11 zaN,zn (.st 5 zN (.t 11) (.t 29))]
def qccs:IC:=zr [zm 31 10,zi 32 (zk 55 [zI 31]),zm 30 32,zv 33 (zx 30 0),zv 34 (zx 30 1),zm 12 33,zm 13 34]
def qca3:IC:=zr [zm 35 13,zv 36 (.bin .neq .no (.t 35) (zc 0))]
def qb8y:IC:=zr [zv 37 (.bld [(.int .i64 0),(.int .i64 0),(.int .i64 0),(.str []),.nils] []),zm 38 12,zm 39 13,zn (.st 5 zN (.t 4) (.t 37)),zm 5 38,zm 6 39]
def qcca:IC:=zr [zv 40 (zl 5 11),zi 41 (zk 56 [zA 40]),zv 42 (.bin .gtr .no (.t 41) (zc 100))]
def qbkx:IC:=.drw [(zv 43 (.bld [(.int .i64 0),(.int .i64 0),(.int .i64 0),(.str []),.nils] []),[]),zp (zv 44 (zd 11 1)),zp (zv 45 (zg 1 44)),(zn (.st 5 zN (.t 4) (.t 43)),[2]),zp (zm 5 45),zp (zv 6 (.mov (zc 2)))]
def qbx6:IC:=zr [zv 46 (zl 5 11),zn (.st 5 zN (.t 4) (.t 46)),zv 5 (.mov (zc 0)),zv 6 (.mov (zc 0))]
def k0b:IC:=(.seq qcao (.seq qb91 (.seq (.seq qccf (.cond (.t 21) (.seq qb7y .ret) .skip)) (.seq qccb (.seq qb7d (.seq (.seq qccs (.seq qca3 (.cond (.t 36) (.seq qb8y .ret) .skip))) (.seq (.seq qcca (.cond (.t 42) (.seq qbkx .ret) .skip)) (.seq qbx6 .ret))))))))
@[go_sem] def s0b:List (RV×Co):=[(.c true 5 4,zN),(.t 5,.id),(.t 6,.id)]
theorem c0b:cFun Tryz.prog 59 = some (47,k0b,s0b):=by kernel_rfl

def qbn9:IC:=zr [zi 1 (.box (.t 0)),zi 2 zaN]
def qb46:IC:=zr [zv 6 (zg 1 1),zi 7 (zk 61 [zI 6,((.c (.str [59])),.id)]),zi 3 (.alo [.nilf]),zn (.st 1 .id (.t 3) (.t 7))]
def qblv:IC:=zr [zv 9 (.mfn 63 [] [(.t 1)]),zv 10 (.mfn 65 [] [(.t 1),(.t 3)]),zi 11 (zk 62 [((.c .nils),(.sl 5)),zI 9,zI 10]),zm 8 11,zv 12 (zx 8 0),zv 13 (zx 8 1),zm 4 12,zm 5 13]
def qbvn:IC:=zr [zm 14 4,zv 15 (.bld [(.int .i64 0),(.int .i64 0),(.int .i64 0),(.str []),.nils] [(0,1,(zc 37)),(4,1,(.t 14))]),zn (.st 5 zN (.t 2) (.t 15))]
def k0ez:IC:=(.seq qbn9 (.seq qb46 (.seq qblv (.seq qbvn .ret))))
@[go_sem] def s0ez:List (RV×Co):=[(.c true 5 2,zN)]
theorem c0ez:cFun Tryz.prog 60 = some (16,k0ez,s0ez):=by kernel_rfl

def qbox:IC:=zr [zi 2 (.box (.t 0)),zi 3 (.box (.t 1)),zv 4 (.mov (.c .nilf))]
def qb4z:IC:=zr [zi 5 (.alo [(.bool false)]),zn (.st 1 .id (.t 5) (.c (.bool false)))]
def qbli:IC:=zr [zv 6 (.mfn 104 [] [(.t 5),(.t 2),(.t 3)]),zm 4 6]
def k0fi:IC:=(.seq qbox (.seq qb4z (.seq qbli .ret)))
@[go_sem] def s0fi:List (RV×Co):=[(.t 4,.id)]
theorem c0fi:cFun Tryz.prog 61 = some (7,k0fi,s0fi):=by kernel_rfl

def qbui:IC:=zr [zv 6 (.mov (.c .nils)),zv 7 zf]
def qbvl:IC:=zr [zm 10 2,zi 11 (.call (.t 10) [])]
def qb36:IC:=zr [zm 13 1,zi 14 (.call (.t 13) []),zm 12 14,zv 15 (zx 12 0),zv 16 (zx 12 1),zi 8 zaN,zn (.st 5 zN (.t 8) (.t 15)),zm 9 16]
def qbk1:IC:=zr [zm 17 9,zv 18 (.un .not (.t 17))]
def qbpq:IC:=zr [zm 19 0,zm 6 19,zv 7 zf]
def qbvi:IC:=zr [zm 20 0,zv 21 (zl 5 8),zv 22 (.bsl 5 [zA 21]),zi 23 (.app 5 zZ 64 (.sl 5) (.t 20) (.t 22)),zm 0 23]
def qb42:IC:=(.seq (.seq qbvl (.cond (.t 11) .skip (.exit 0))) (.block 1 (.seq qb36 (.seq (.seq qbk1 (.cond (.t 18) (.seq qbpq .ret) .skip)) qbvi))))
def qbvu:IC:=zr [zm 24 0,zm 6 24,zv 7 (.mov (.c (.bool true)))]
def k0fq:IC:=(.seq qbui (.seq (.block 0 (.loop qb42)) (.seq qbvu .ret)))
@[go_sem] def s0fq:List (RV×Co):=[(.t 6,(.sl 5)),(.t 7,.id)]
theorem c0fq:cFun Tryz.prog 62 = some (25,k0fq,s0fq):=by kernel_rfl

def qb49:IC:=zr [zi 1 zaN,zv 2 zf]
def qb1l:IC:=zr [zv 3 (zg 1 0),zi 4 (zk 64 [zI 3]),zv 5 (zx 4 0),zv 6 (zx 4 1),zn (.st 5 zN (.t 1) (.t 5)),zm 2 6]
def k0ex:IC:=(.seq qb49 (.seq qb1l .ret))
@[go_sem] def s0ex:List (RV×Co):=[(.c true 5 1,zN),(.t 2,.id)]
theorem c0ex:cFun Tryz.prog 63 = some (7,k0ex,s0ex):=by kernel_rfl

def qb50:IC:=zr [zi 2 zaN,zv 3 zf]
def qbnc:IC:=zr [zm 5 0,zi 6 (zk 66 [zI 5]),zv 7 (.fld false 1 1 (.t 6)),zv 8 (.bld [(.int .i64 0),(.int .i64 0),(.int .i64 0),(.str []),.nils] [(1,1,(.t 7))]),zi 4 zaN,zn (.st 5 zN (.t 4) (.t 8))]
def qbjx:IC:=zr [zm 10 0,zi 11 (zk 105 [zI 10,((.c (.str [100,97,116,97])),.id)]),zm 9 11]
def qb3l:IC:=zr [zm 12 0,zv 13 (zl 5 4),zi 14 (zk 106 [zI 12,zA 13]),zv 15 (zx 14 0),zv 16 (zx 14 1),zn (.st 5 zN (.t 2) (.t 15)),zm 3 16]
def qbzi:IC:=zr [zm 18 0,zi 19 (zk 105 [zI 18,((.c (.str [99,108,97,115,115])),.id)]),zm 17 19]
def qbtc:IC:=zr [zv 20 (zd 4 0),zn (.st 1 .id (.t 20) (zc 35))]
def qb2o:IC:=zr [zm 21 0,zv 22 (zl 5 4),zi 23 (zk 107 [zI 21,zA 22]),zv 24 (zx 23 0),zv 25 (zx 23 1),zn (.st 5 zN (.t 2) (.t 24)),zm 3 25]
def qbvp:IC:=zr [zm 27 0,zi 28 (zk 105 [zI 27,((.c (.str [105,110,115,116,97,110,99,101])),.id)]),zm 26 28]
def qb6h:IC:=zr [zv 29 (zd 4 0),zn (.st 1 .id (.t 29) (zc 36))]
def qb2f:IC:=zr [zm 30 0,zv 31 (zl 5 4),zi 32 (zk 107 [zI 30,zA 31]),zv 33 (zx 32 0),zv 34 (zx 32 1),zn (.st 5 zN (.t 2) (.t 33)),zm 3 34]
def qbf0:IC:=zr [zm 35 0,zi 36 (zk 108 [zI 35]),zv 37 (zx 36 0),zv 38 (zx 36 1),zn (.st 5 zN (.t 2) (.t 37)),zm 3 38]
def k0ew:IC:=(.seq qb50 (.seq qbnc (.seq (.block 0 (.seq qbjx (.cond (.t 9) (.seq qb3l .ret) (.seq qbzi (.cond (.t 17) (.seq qbtc (.seq qb2o .ret)) (.seq qbvp (.cond (.t 26) (.seq qb6h (.seq qb2f .ret)) .skip))))))) (.seq qbf0 .ret))))
@[go_sem] def s0ew:List (RV×Co):=[(.c true 5 2,zN),(.t 3,.id)]
theorem c0ew:cFun Tryz.prog 64 = some (39,k0ew,s0ew):=by kernel_rfl

def qby6:IC:=zr [zv 2 zf]
def qbot:IC:=zr [zv 3 (zg 1 0),zi 4 (zk 66 [zI 3]),zv 5 (.fld false 1 0 (.t 4)),zv 6 (.bin .neq .no (.t 5) (zc 0)),zm 7 6,zw 7 true 8 (zg 1 1),zj 7 true 9 (.call (.t 8) []),zv 10 (.pick (.t 7) (.t 9) (.c (.bool false))),zm 11 10,zw 11 true 12 (zg 1 0),zj 11 true 13 (zk 66 [zI 12]),zw 11 true 14 (.fld false 1 0 (.t 13)),zw 11 true 15 (.bin .neq .no (.t 14) (zc 0)),zv 16 (.pick (.t 11) (.t 15) (.c (.bool false))),zm 2 16]
def k0ey:IC:=(.seq qby6 (.seq qbot .ret))
@[go_sem] def s0ey:List (RV×Co):=[(.t 2,.id)]
theorem c0ey:cFun Tryz.prog 65 = some (17,k0ey,s0ey):=by kernel_rfl

def qbnl:IC:=zr [zi 2 zaT]
def qb2y:IC:=zr [zm 4 0,zi 5 (zk 109 [zI 4]),zm 3 5]
def qb4v:IC:=zr [zv 6 (.bld [(.int .i64 0),(.int .i64 0),(.int .i64 0),(.str [])] []),zn (.st 4 .id (.t 2) (.t 6))]
def qbym:IC:=.drw [zp (zm 8 0),zp (zv 9 (.nck (.t 8))),zp (zv 10 (zd 9 5)),zp (zv 11 (zg 1 10)),zp (zm 12 0),zp (zv 13 (.nck (.t 12))),zp (zv 14 (zd 13 0)),zp (zv 15 (zg 1 14)),zp (zv 16 (.len false (.t 15))),zp (zv 17 (.bin .lss .no (.t 11) (.t 16))),zp (zm 7 17)]
def qbjm:IC:=.drw [zp (zm 18 0),zp (zv 19 (.nck (.t 18))),zp (zv 20 (zd 19 0)),zp (zv 21 (zg 1 20)),zp (zm 22 0),zp (zv 23 (.nck (.t 22))),zp (zv 24 (zd 23 5)),zp (zv 25 (zg 1 24)),zp (zv 26 (.iad 4 (.t 21) (.t 25))),zp (zv 27 (zl 4 26)),(zn (.st 4 .id (.t 2) (.t 27)),[])]
def qb0q:IC:=zr [zm 28 0,zv 29 (.nck (.t 28)),zv 30 (zd 29 1),zv 31 (zl 4 30),zn (.st 4 .id (.t 2) (.t 31))]
def k0ek:IC:=(.seq qbnl (.seq (.block 0 (.seq qb2y (.cond (.t 3) (.seq qb4v .ret) (.seq qbym (.cond (.t 7) (.seq qbjm .ret) .skip))))) (.seq qb0q .ret)))
@[go_sem] def s0ek:List (RV×Co):=[(.c true 4 2,.id)]
theorem c0ek:cFun Tryz.prog 66 = some (32,k0ek,s0ek):=by kernel_rfl

def qbxl:IC:=zr [zi 1 (.box (.t 0)),zv 2 zf]
def qbty:IC:=zr [zv 3 (zd 1 3),zv 4 (zg 1 3),zv 5 (zq (.t 4) (.c (.str []))),zm 6 5,zw 6 true 7 (zd 1 2),zw 6 true 8 (zg 1 7),zw 6 true 9 (zq (.t 8) (zc 0)),zv 10 (.pick (.t 6) (.t 9) (.c (.bool false))),zm 2 10]
def k0bv:IC:=(.seq qbxl (.seq qbty .ret))
@[go_sem] def s0bv:List (RV×Co):=[(.t 2,.id)]
theorem c0bv:cFun Tryz.prog 67 = some (11,k0bv,s0bv):=by kernel_rfl

def qbyw:IC:=zr [zv 4 zf]
def qbol:IC:=zr [zm 7 0,zv 8 (.len false (.t 7)),zv 9 (.mov (zc 0))]
def qb18:IC:=zr [zv 10 (.bin .lss .no (.t 9) (.t 8))]
def qbvs:IC:=zr [zv 11 (.iad 5 (.t 7) (.t 9)),zv 12 (zl 5 11),zi 6 zaN,zn (.st 5 zN (.t 6) (.t 12))]
def qbzq:IC:=zr [zm 13 1,zv 14 (zl 5 6),zi 15 (.call (.t 13) [zA 14]),zv 16 (.un .not (.t 15))]
def qbnv:IC:=zr [zv 4 zf]
def qb39:IC:=zr [zv 17 (.bin .add .no (.t 9) (zc 1)),zm 9 17]
def qbl3:IC:=(.seq qb18 (.seq (.cond (.t 10) .skip (.exit 0)) (.seq (.block 1 (.seq qbvs (.seq qbzq (.cond (.t 16) (.seq qbnv .ret) .skip)))) qb39)))
def qbu4:IC:=zr [zv 4 (.mov (.c (.bool true)))]
def k0bx:IC:=(.seq qbyw (.seq (.seq qbol (.block 0 (.loop qbl3))) (.seq qbu4 .ret)))
@[go_sem] def s0bx:List (RV×Co):=[(.t 4,.id)]
theorem c0bx:cFun Tryz.prog 68 = some (18,k0bx,s0bx):=by kernel_rfl

def qbq5:IC:=zr [zi 1 (.box (.t 0)),zv 2 zf]
def qbs9:IC:=zr [zv 6 (zd 1 0),zv 7 (zg 1 6)]
def qb0u:IC:=zr [zv 9 (zq (.t 7) (zc 31)),zm 8 9]
def qbup:IC:=zr [zv 10 (zl 5 1),zi 11 (zk 100 [zA 10]),zm 2 11]
def qbiw:IC:=zr [zv 13 (zq (.t 7) (zc 32)),zm 12 13]
def qbkb:IC:=zr [zv 14 (zl 5 1),zi 15 (zk 101 [zA 14]),zm 2 15]
def qbjc:IC:=zr [zv 16 (zd 1 3),zv 17 (zg 1 16),zi 18 (zk 91 [zI 17]),zv 19 (.un .not (.t 18)),zm 20 19,zw 20 false 21 (zd 1 2),zw 20 false 22 (zg 1 21),zw 20 false 23 (.bin .lss .no (.t 22) (zc 0)),zv 24 (.pick (.t 20) (.c (.bool true)) (.t 23)),zm 25 24,zw 25 false 26 (zd 1 2),zw 25 false 27 (zg 1 26),zw 25 false 28 (zd 1 4),zw 25 false 29 (zg 1 28),zw 25 false 30 (.len false (.t 29)),zw 25 false 31 (.bin .geq .no (.t 27) (.t 30)),zv 32 (.pick (.t 25) (.c (.bool true)) (.t 31))]
def qb3q:IC:=zr [zv 2 zf]
def qbyz:IC:=.drw [zp (zv 33 (zd 1 4)),zp (zv 34 (zg 1 33)),zp (zv 35 (zd 1 2)),zp (zv 36 (zg 1 35)),zp (zv 37 (.slv 5 (.t 34) none (some (.t 36)) none)),zp (zv 38 (zd 1 4)),zp (zv 39 (zg 1 38)),zp (zv 40 (zd 1 2)),zp (zv 41 (zg 1 40)),zp (zv 42 (.iad 5 (.t 39) (.t 41))),zp (zv 43 (zl 5 42)),zp (zv 44 (zd 1 4)),zp (zv 45 (zg 1 44)),zp (zv 46 (zd 1 2)),zp (zv 47 (zg 1 46)),zp (zv 48 (.bin .add .no (.t 47) (zc 1))),zp (zv 49 (.slv 5 (.t 45) (some (.t 48)) none none)),(zi 4 zaN,[1,3,4,6,8,10,12,14,16]),zp (zm 3 37),(zn (.st 5 zN (.t 4) (.t 43)),[12,14,16]),zp (zm 5 49)]
def qbko:IC:=zr [zv 50 (zd 1 0),zv 51 (zg 1 50)]
def qbci:IC:=zr [zv 53 (zq (.t 51) (zc 33)),zm 52 53]
def qbbu:IC:=zr [zm 54 3,zi 55 (zk 68 [((.t 54),(.sl 5)),((.c (.fn 110 [] [])),.id)]),zm 56 55,zw 56 true 57 (zl 5 4),zj 56 true 58 (zk 111 [zA 57]),zv 59 (.pick (.t 56) (.t 58) (.c (.bool false))),zm 60 59,zw 60 true 61 (zo 5),zj 60 true 62 (zk 68 [((.t 61),(.sl 5)),((.c (.fn 111 [] [])),.id)]),zv 63 (.pick (.t 60) (.t 62) (.c (.bool false))),zm 2 63]
def qbey:IC:=zr [zv 65 (zq (.t 51) (zc 35)),zm 64 65]
def qbf1:IC:=zr [zm 66 3,zi 67 (zk 68 [((.t 66),(.sl 5)),((.c (.fn 112 [] [])),.id)]),zm 68 67,zw 68 true 69 (zl 5 4),zj 68 true 70 (zk 110 [zA 69]),zv 71 (.pick (.t 68) (.t 70) (.c (.bool false))),zm 72 71,zw 72 true 73 (zo 5),zj 72 true 74 (zk 68 [((.t 73),(.sl 5)),((.c (.fn 101 [] [])),.id)]),zv 75 (.pick (.t 72) (.t 74) (.c (.bool false))),zm 2 75]
def qbf7:IC:=zr [zv 77 (zq (.t 51) (zc 36)),zm 76 77]
def qban:IC:=zr [zm 78 3,zi 79 (zk 68 [((.t 78),(.sl 5)),((.c (.fn 112 [] [])),.id)]),zm 80 79,zw 80 true 81 (zl 5 4),zj 80 true 82 (zk 48 [zA 81]),zv 83 (.pick (.t 80) (.t 82) (.c (.bool false))),zm 84 83,zw 84 true 85 (zo 5),zj 84 true 86 (zk 68 [((.t 85),(.sl 5)),((.c (.fn 100 [] [])),.id)]),zv 87 (.pick (.t 84) (.t 86) (.c (.bool false))),zm 2 87]
def qbcn:IC:=zr [zv 2 zf]
def k0bh:IC:=(.seq qbq5 (.seq (.seq qbs9 (.block 0 (.seq qb0u (.cond (.t 8) (.seq qbup .ret) (.seq qbiw (.cond (.t 12) (.seq qbkb .ret) .skip)))))) (.seq (.seq qbjc (.cond (.t 32) (.seq qb3q .ret) .skip)) (.seq qbyz (.seq (.seq qbko (.block 1 (.seq qbci (.cond (.t 52) (.seq qbbu .ret) (.seq qbey (.cond (.t 64) (.seq qbf1 .ret) (.seq qbf7 (.cond (.t 76) (.seq qban .ret) .skip)))))))) (.seq qbcn .ret))))))
@[go_sem] def s0bh:List (RV×Co):=[(.t 2,.id)]
theorem c0bh:cFun Tryz.prog 69 = some (88,k0bh,s0bh):=by kernel_rfl

def qb33:IC:=zr [zi 2 zaN]
def qb38:IC:=zr [zm 6 0,zi 7 (zk 64 [zI 6]),zm 5 7,zv 8 (zx 5 0),zv 9 (zx 5 1),zi 3 zaN,zn (.st 5 zN (.t 3) (.t 8)),zm 4 9]
def qb3s:IC:=zr [zv 10 (zl 5 3),zn (.st 5 zN (.t 2) (.t 10))]
def k0fa:IC:=(.seq qb33 (.seq qb38 (.seq qb3s .ret)))
@[go_sem] def s0fa:List (RV×Co):=[(.c true 5 2,zN)]
theorem c0fa:cFun Tryz.prog 70 = some (11,k0fa,s0fa):=by kernel_rfl

def qb2g:IC:=zr [zv 2 (.mov (.c (.str [])))]
def qbly:IC:=zr [zm 4 0,zi 5 (zk 44 [((.t 4),(.sl 5)),((.c (.str [44,32])),.id),((.c (.fn 118 [] [])),.id)]),zm 3 5]
def qbrg:IC:=zr [zm 6 0,zv 7 (.len false (.t 6))]
def qb6b:IC:=zr [zv 9 (zq (.t 7) (zc 0)),zm 8 9]
def qbr6:IC:=zr [zv 2 (.mov (.c (.str [])))]
def qbzf:IC:=zr [zv 11 (zq (.t 7) (zc 1)),zm 10 11]
def qb23:IC:=zr [zm 12 3,zv 13 (.bin .add .no (.t 12) (.c (.str [32,61,62,32]))),zm 2 13]
def qbrs:IC:=zr [zm 14 3,zv 15 (.bin .add .no (.c (.str [40])) (.t 14)),zv 16 (.bin .add .no (.t 15) (.c (.str [41,32,61,62,32]))),zm 2 16]
def k0bb:IC:=(.seq qb2g (.seq qbly (.seq (.seq qbrg (.block 0 (.seq qb6b (.cond (.t 8) (.seq qbr6 .ret) (.seq qbzf (.cond (.t 10) (.seq qb23 .ret) .skip)))))) (.seq qbrs .ret))))
@[go_sem] def s0bb:List (RV×Co):=[(.t 2,.id)]
theorem c0bb:cFun Tryz.prog 74 = some (17,k0bb,s0bb):=by kernel_rfl

def qbw3:IC:=zr [zv 2 (.mov (.c (.str [])))]
def qbma:IC:=zr [zm 5 0,zi 6 (zk 124 [zI 5]),zm 3 6]
def qb4j:IC:=zr [zv 4 (.mov (.c (.str [])))]
def qb20:IC:=zr [zm 7 3,zv 8 (.bin .gtr .no (.t 7) (.c (.int .u64 9)))]
def qb5v:IC:=zr [zm 9 3,zv 10 (.bin .rem .no (.t 9) (.c (.int .u64 10))),zv 11 (.bin .add .no (.c (.int .u64 48)) (.t 10)),zv 12 (.cvi .u8 (.t 11)),zv 13 (.bsl 1 [zI 12]),zv 14 (.cbs (.t 13)),zm 15 4,zv 16 (.bin .add .no (.t 14) (.t 15)),zm 4 16]
def qbuk:IC:=zr [zm 17 3,zv 18 (.bin .quo .no (.t 17) (.c (.int .u64 10))),zm 3 18]
def qbpe:IC:=(.seq (.seq qb20 (.cond (.t 8) .skip (.exit 0))) (.block 1 (.seq qb5v qbuk)))
def qbpm:IC:=zr [zm 19 3,zv 20 (.bin .add .no (.c (.int .u64 48)) (.t 19)),zv 21 (.cvi .u8 (.t 20)),zv 22 (.bsl 1 [zI 21]),zv 23 (.cbs (.t 22)),zm 24 4,zv 25 (.bin .add .no (.t 23) (.t 24)),zm 4 25]
def qbyi:IC:=zr [zm 26 0,zv 27 (.bin .lss .no (.t 26) (zc 0))]
def qbfx:IC:=zr [zm 28 4,zv 29 (.bin .add .no (.c (.str [45])) (.t 28)),zm 2 29]
def qbd3:IC:=zr [zm 30 4,zm 2 30]
def k0cn:IC:=(.seq qbw3 (.seq qbma (.seq qb4j (.seq (.block 0 (.loop qbpe)) (.seq qbpm (.seq (.seq qbyi (.cond (.t 27) (.seq qbfx .ret) .skip)) (.seq qbd3 .ret)))))))
@[go_sem] def s0cn:List (RV×Co):=[(.t 2,.id)]
theorem c0cn:cFun Tryz.prog 78 = some (31,k0cn,s0cn):=by kernel_rfl

def qb6w:IC:=zr [zi 1 (.box (.t 0)),zv 2 (.mov (.c (.str [])))]
def qb9m:IC:=zr [zv 4 (zd 1 0),zv 5 (zl 5 4),zi 3 zaN,zn (.st 5 zN (.t 3) (.t 5))]
def qcap:IC:=zr [zv 6 (zd 3 0),zv 7 (zg 1 6),zv 8 (.bin .neq .no (.t 7) (zc 1)),zm 9 8,zw 9 true 10 (zd 3 3),zw 9 true 11 (zg 1 10),zw 9 true 12 (zq (.t 11) (.c (.str [45,62]))),zv 13 (.pick (.t 9) (.t 12) (.c (.bool false)))]
def qb9g:IC:=.drw [zp (zv 14 (zd 3 4)),zp (zv 15 (zg 1 14)),zp (zv 16 (.iad 5 (.t 15) (zc 0))),zp (zv 17 (zl 5 16)),(zv 18 (.bld [(.int .i64 0),(.int .i64 0),(.int .i64 0),(.str []),.nils] [(0,5,(.t 17))]),[]),(zv 19 (.mki 37 (.t 18) zN),[]),zp (zv 20 (zd 3 4)),zp (zv 21 (zg 1 20)),zp (zv 22 (.iad 5 (.t 21) (zc 0))),zp (zv 23 (zd 22 3)),zp (zv 24 (zg 1 23)),(zv 25 (.bin .neq .no (.t 24) (.c (.str [45,62]))),[]),(zi 26 (zk 131 [zI 19,zI 25]),[]),(zv 27 (.bin .add .no (.t 26) (.c (.str [32,45,62,32]))),[]),zp (zv 28 (zd 3 4)),(zv 29 (zg 1 28),[12]),zp (zv 30 (.iad 5 (.t 29) (zc 1))),(zv 31 (zl 5 30),[12]),(zv 32 (.bld [(.int .i64 0),(.int .i64 0),(.int .i64 0),(.str []),.nils] [(0,5,(.t 31))]),[]),(zv 33 (.mki 37 (.t 32) zN),[12]),(zi 34 (zk 46 [zI 33]),[]),zp (zv 35 (.bin .add .no (.t 27) (.t 34))),zp (zm 2 35)]
def qb8j:IC:=.drw [zp (zv 36 (zd 3 3)),zp (zv 37 (zg 1 36)),zp (zv 38 (zd 3 4)),zp (zv 39 (zg 1 38)),(zi 40 (zk 44 [((.t 39),(.sl 5)),((.c (.str [])),.id),((.c (.fn 119 [] [])),.id)]),[1]),zp (zv 41 (.bin .add .no (.t 37) (.t 40))),zp (zm 2 41)]
def k0z:IC:=(.seq qb6w (.seq qb9m (.seq (.seq qcap (.cond (.t 13) (.seq qb9g .ret) .skip)) (.seq qb8j .ret))))
@[go_sem] def s0z:List (RV×Co):=[(.t 2,.id)]
theorem c0z:cFun Tryz.prog 84 = some (42,k0z,s0z):=by kernel_rfl

def qbiz:IC:=zr [zi 1 (.box (.t 0)),zv 2 (.mov (.c (.str [])))]
def qb5m:IC:=zr [zv 3 (zd 1 0),zv 4 (zd 3 0),zv 5 (zg 1 4)]
def qbp6:IC:=zr [zv 7 (zq (.t 5) (zc 12)),zm 6 7]
def qbkv:IC:=zr [zv 2 (.mov (.c (.str [95])))]
def qb21:IC:=zr [zv 9 (zq (.t 5) (zc 13)),zm 8 9]
def qb17:IC:=zr [zv 10 (zd 1 0),zv 11 (zd 10 2),zv 12 (zg 1 11),zi 13 (zk 132 [zI 12]),zm 2 13]
def qbi5:IC:=.drw [zp (zv 14 (zd 1 0)),zp (zv 15 (zd 14 3)),zp (zv 16 (zg 1 15)),zp (zv 17 (zd 1 0)),zp (zv 18 (zd 17 4)),zp (zv 19 (zg 1 18)),(zi 20 (zk 44 [((.t 19),(.sl 5)),((.c (.str [])),.id),((.c (.fn 133 [] [])),.id)]),[2]),zp (zv 21 (.bin .add .no (.t 16) (.t 20))),zp (zm 2 21)]
def k0be:IC:=(.seq qbiz (.seq (.seq qb5m (.block 0 (.seq qbp6 (.cond (.t 6) (.seq qbkv .ret) (.seq qb21 (.cond (.t 8) (.seq qb17 .ret) .skip)))))) (.seq qbi5 .ret)))
@[go_sem] def s0be:List (RV×Co):=[(.t 2,.id)]
theorem c0be:cFun Tryz.prog 85 = some (22,k0be,s0be):=by kernel_rfl

def qb76:IC:=zr [zi 1 (.box (.t 0)),zv 2 (.mov (.c (.str [])))]
def qb9f:IC:=.drw [zp (zv 8 (zd 1 0)),zp (zv 9 (zl 5 8)),zp (zv 10 (zd 1 0)),zp (zv 11 (zd 10 4)),zp (zv 12 (zg 1 11)),zp (zv 13 (.len false (.t 12))),zp (zv 14 (.bin .sub .no (.t 13) (zc 1))),(zi 3 zaN,[1,4]),(zn (.st 5 zN (.t 3) (.t 9)),[4]),zp (zm 4 14)]
def qcbo:IC:=zr [zv 15 (.mfn 135 [] [(.t 3)]),zm 5 15]
def qcbh:IC:=zr [zv 16 (zd 3 0),zv 17 (zg 1 16)]
def qb61:IC:=zr [zv 19 (zq (.t 17) (zc 23)),zm 18 19]
def qb8i:IC:=zr [zv 20 (zd 3 2),zv 21 (zg 1 20),zi 22 (zk 132 [zI 21]),zm 2 22]
def qcck:IC:=zr [zv 24 (zq (.t 17) (zc 24)),zm 23 24]
def qvc:IC:=.drw [zp (zv 25 (zd 3 4)),zp (zv 26 (zg 1 25)),zp (zv 27 (.iad 5 (.t 26) (zc 0))),zp (zv 28 (zl 5 27)),zp (zv 29 (zd 3 4)),zp (zv 30 (zg 1 29)),zp (zv 31 (.iad 5 (.t 30) (zc 1))),zp (zv 32 (zl 5 31)),(zi 6 zaN,[1,3,5,7]),(zi 7 zaN,[1,3,5,7,8]),(zn (.st 5 zN (.t 6) (.t 28)),[5,7]),(zn (.st 5 zN (.t 7) (.t 32)),[])]
def qb8b:IC:=.drw [zp (zv 33 (zl 5 6)),(zv 34 (.bld [(.int .i64 0),(.int .i64 0),(.int .i64 0),(.str []),.nils] [(0,5,(.t 33))]),[]),(zv 35 (.mki 39 (.t 34) zN),[]),zp (zv 36 (zl 5 6)),(zi 37 (zk 134 [zA 36]),[0,2]),zp (zm 38 37),zp (zw 38 false 39 (zd 6 0)),zp (zw 38 false 40 (zg 1 39)),zp (zw 38 false 41 (zq (.t 40) (zc 24))),zp (zv 42 (.pick (.t 38) (.c (.bool true)) (.t 41))),(zi 43 (zk 131 [zI 35,zI 42]),[]),(zv 44 (.bin .add .no (.t 43) (.c (.str [32]))),[]),(zv 45 (zl 5 7),[4,10]),(zv 46 (.bld [(.int .i64 0),(.int .i64 0),(.int .i64 0),(.str []),.nils] [(0,5,(.t 45))]),[]),(zv 47 (.mki 39 (.t 46) zN),[4,10]),(zv 48 (zl 5 7),[4,10]),(zi 49 (zk 134 [zA 48]),[12,14]),(zi 50 (zk 131 [zI 47,zI 49]),[]),zp (zv 51 (.bin .add .no (.t 44) (.t 50))),zp (zm 2 51)]
def qcbs:IC:=zr [zv 53 (zq (.t 17) (zc 25)),zm 52 53]
def qb3i:IC:=.drw [zp (zv 54 (zd 3 3)),zp (zv 55 (zg 1 54)),(zv 56 (.bin .add .no (.c (.str [92,32])) (.t 55)),[]),(zv 57 (.bin .add .no (.t 56) (.c (.str [32,45,62,32]))),[]),zp (zm 58 5),(zi 59 (.call (.t 58) [((zc 0),.id)]),[1]),zp (zv 60 (.bin .add .no (.t 57) (.t 59))),zp (zm 2 60)]
def qb0j:IC:=zr [zv 62 (zq (.t 17) (zc 26)),zm 61 62]
def qbuu:IC:=zr [zv 63 (zd 3 4),zv 64 (zg 1 63),zm 65 4,zv 66 (.slv 5 (.t 64) none (some (.t 65)) none),zi 67 (zk 136 [((.t 66),(.sl 5))]),zv 68 (.bin .add .no (.c (.str [108,101,116,32])) (.t 67)),zv 69 (.bin .add .no (.t 68) (.c (.str [32,105,110,32]))),zm 70 5,zm 71 4,zi 72 (.call (.t 70) [zI 71]),zv 73 (.bin .add .no (.t 69) (.t 72)),zm 2 73]
def qbwl:IC:=zr [zv 75 (zq (.t 17) (zc 27)),zm 74 75]
def qbxw:IC:=.drw [zp (zm 76 5),(zi 77 (.call (.t 76) [((zc 0),.id)]),[]),(zv 78 (.bin .add .no (.c (.str [99,97,115,101,32])) (.t 77)),[]),(zv 79 (.bin .add .no (.t 78) (.c (.str [32,111,102,32]))),[]),zp (zv 80 (zd 3 4)),(zv 81 (zg 1 80),[1]),(zv 82 (.slv 5 (.t 81) (some (zc 1)) none none),[1]),(zi 83 (zk 44 [((.t 82),(.sl 5)),((.c (.str [59,32])),.id),((.c (.fn 138 [] [])),.id)]),[]),(zi 84 (zk 137 [zI 83]),[]),zp (zv 85 (.bin .add .no (.t 79) (.t 84))),zp (zm 2 85)]
def qbqe:IC:=zr [zv 87 (zq (.t 17) (zc 28)),zm 86 87]
def qbr3:IC:=zr [zm 88 5,zi 89 (.call (.t 88) [((zc 0),.id)]),zv 90 (.bin .add .no (.c (.str [105,102,32])) (.t 89)),zv 91 (.bin .add .no (.t 90) (.c (.str [32,116,104,101,110,32]))),zm 92 5,zi 93 (.call (.t 92) [((zc 1),.id)]),zv 94 (.bin .add .no (.t 91) (.t 93)),zv 95 (.bin .add .no (.t 94) (.c (.str [32,101,108,115,101,32]))),zm 96 5,zi 97 (.call (.t 96) [((zc 2),.id)]),zv 98 (.bin .add .no (.t 95) (.t 97)),zm 2 98]
def qbys:IC:=zr [zv 99 (zd 3 3),zv 100 (zg 1 99),zm 2 100]
def k0o:IC:=(.seq qb76 (.seq qb9f (.seq qcbo (.seq (.seq qcbh (.block 0 (.seq qb61 (.cond (.t 18) (.seq qb8i .ret) (.seq qcck (.cond (.t 23) (.seq qvc (.seq qb8b .ret)) (.seq qcbs (.cond (.t 52) (.seq qb3i .ret) (.seq qb0j (.cond (.t 61) (.seq qbuu .ret) (.seq qbwl (.cond (.t 74) (.seq qbxw .ret) (.seq qbqe (.cond (.t 86) (.seq qbr3 .ret) .skip)))))))))))))) (.seq qbys .ret)))))
@[go_sem] def s0o:List (RV×Co):=[(.t 2,.id)]
theorem c0o:cFun Tryz.prog 86 = some (101,k0o,s0o):=by kernel_rfl

def qb7h:IC:=zr [zi 1 (.box (.t 0)),zv 2 (.mov (.c (.str [])))]
def qb8n:IC:=zr [zv 7 (zd 1 0),zv 8 (zl 5 7),zi 3 zaN,zn (.st 5 zN (.t 3) (.t 8))]
def qccz:IC:=zr [zv 9 (zd 3 0),zv 10 (zg 1 9)]
def qb8s:IC:=zr [zv 12 (zq (.t 10) (zc 31)),zm 11 12]
def qccn:IC:=.drw [zp (zv 13 (zd 3 3)),zp (zv 14 (zg 1 13)),(zv 15 (.bin .add .no (.t 14) (.c (.str [32,61,32]))),[]),zp (zv 16 (zd 3 4)),zp (zv 17 (zg 1 16)),zp (zv 18 (.iad 5 (.t 17) (zc 0))),zp (zv 19 (zl 5 18)),(zv 20 (.bld [(.int .i64 0),(.int .i64 0),(.int .i64 0),(.str []),.nils] [(0,5,(.t 19))]),[]),(zv 21 (.mki 39 (.t 20) zN),[]),(zi 22 (zk 46 [zI 21]),[1]),zp (zv 23 (.bin .add .no (.t 15) (.t 22))),zp (zm 2 23)]
def qcb9:IC:=zr [zv 25 (zq (.t 10) (zc 32)),zm 24 25]
def qb7j:IC:=.drw [zp (zv 26 (zd 3 3)),zp (zv 27 (zg 1 26)),(zv 28 (.bin .add .no (.t 27) (.c (.str [32,58,58,32]))),[]),zp (zv 29 (zd 3 4)),zp (zv 30 (zg 1 29)),zp (zv 31 (.iad 5 (.t 30) (zc 0))),zp (zv 32 (zl 5 31)),(zi 33 (zk 36 [zA 32]),[1]),zp (zv 34 (.bin .add .no (.t 28) (.t 33))),zp (zm 2 34)]
def qb7c:IC:=.drw [zp (zv 35 (zd 3 4)),zp (zv 36 (zg 1 35)),zp (zv 37 (zd 3 2)),zp (zv 38 (zg 1 37)),zp (zv 39 (.slv 5 (.t 36) none (some (.t 38)) none)),zp (zv 40 (zd 3 4)),zp (zv 41 (zg 1 40)),zp (zv 42 (zd 3 2)),zp (zv 43 (zg 1 42)),zp (zv 44 (.slv 5 (.t 41) (some (.t 43)) none none)),zp (zm 4 39),zp (zm 5 44)]
def qb80:IC:=zr [zv 45 (zd 3 0),zv 46 (zg 1 45)]
def qb8v:IC:=zr [zv 48 (zq (.t 46) (zc 33)),zm 47 48]
def qb03:IC:=zr [zm 49 5,zi 50 (zk 44 [((.t 49),(.sl 5)),((.c (.str [32,124,32])),.id),((.c (.fn 139 [] [])),.id)]),zm 6 50]
def qb0b:IC:=.drw [zp (zv 51 (zd 3 3)),zp (zv 52 (zg 1 51)),(zv 53 (.bin .add .no (.c (.str [100,97,116,97,32])) (.t 52)),[]),zp (zm 54 4),(zi 55 (zk 44 [((.t 54),(.sl 5)),((.c (.str [])),.id),((.c (.fn 119 [] [])),.id)]),[1]),zp (zv 56 (.bin .add .no (.t 53) (.t 55))),(zv 57 (.bin .add .no (.t 56) (.c (.str [32,61,32]))),[]),zp (zm 58 6),zp (zv 59 (.bin .add .no (.t 57) (.t 58))),zp (zm 2 59)]
def qb58:IC:=zr [zv 61 (zq (.t 46) (zc 35)),zm 60 61]
def qbng:IC:=.drw [zp (zm 62 4),(zi 63 (zk 74 [((.t 62),(.sl 5))]),[]),(zv 64 (.bin .add .no (.c (.str [99,108,97,115,115,32])) (.t 63)),[]),zp (zv 65 (zd 3 3)),(zv 66 (zg 1 65),[1]),zp (zv 67 (.bin .add .no (.t 64) (.t 66))),zp (zm 68 5),zp (zv 69 (.iad 5 (.t 68) (zc 0))),(zv 70 (zl 5 69),[1]),(zi 71 (zk 119 [zA 70]),[4]),zp (zv 72 (.bin .add .no (.t 67) (.t 71))),(zv 73 (.bin .add .no (.t 72) (.c (.str [32,119,104,101,114,101,32]))),[]),zp (zm 74 5),(zv 75 (.slv 5 (.t 74) (some (zc 1)) none none),[1,9]),(zi 76 (zk 136 [((.t 75),(.sl 5))]),[4]),zp (zv 77 (.bin .add .no (.t 73) (.t 76))),zp (zm 2 77)]
def qbtd:IC:=.drw [zp (zm 78 4),(zi 79 (zk 74 [((.t 78),(.sl 5))]),[]),(zv 80 (.bin .add .no (.c (.str [105,110,115,116,97,110,99,101,32])) (.t 79)),[]),zp (zv 81 (zd 3 3)),(zv 82 (zg 1 81),[1]),zp (zv 83 (.bin .add .no (.t 80) (.t 82))),zp (zm 84 5),zp (zv 85 (.iad 5 (.t 84) (zc 0))),(zv 86 (zl 5 85),[1]),(zi 87 (zk 119 [zA 86]),[4]),zp (zv 88 (.bin .add .no (.t 83) (.t 87))),(zv 89 (.bin .add .no (.t 88) (.c (.str [32,119,104,101,114,101,32]))),[]),zp (zm 90 5),(zv 91 (.slv 5 (.t 90) (some (zc 1)) none none),[1,9]),(zi 92 (zk 136 [((.t 91),(.sl 5))]),[4]),zp (zv 93 (.bin .add .no (.t 89) (.t 92))),zp (zm 2 93)]
def k0m:IC:=(.seq qb7h (.seq qb8n (.seq (.seq qccz (.block 0 (.seq qb8s (.cond (.t 11) (.seq qccn .ret) (.seq qcb9 (.cond (.t 24) (.seq qb7j .ret) .skip)))))) (.seq qb7c (.seq (.seq qb80 (.block 1 (.seq qb8v (.cond (.t 47) (.seq qb03 (.seq qb0b .ret)) (.seq qb58 (.cond (.t 60) (.seq qbng .ret) .skip)))))) (.seq qbtd .ret))))))
@[go_sem] def s0m:List (RV×Co):=[(.t 2,.id)]
theorem c0m:cFun Tryz.prog 87 = some (94,k0m,s0m):=by kernel_rfl

def qb0r:IC:=zr [zi 2 (.box (.t 0)),zi 3 (.box (.t 1)),zv 4 (.mov (.c .nilf))]
def qbke:IC:=zr [zv 5 (.mfn 140 [] [(.t 2),(.t 3)]),zm 4 5]
def k0cc:IC:=(.seq qb0r (.seq qbke .ret))
@[go_sem] def s0cc:List (RV×Co):=[(.t 4,.id)]
theorem c0cc:cFun Tryz.prog 88 = some (6,k0cc,s0cc):=by kernel_rfl

def qbt3:IC:=zr [zi 2 (.box (.t 0)),zv 4 zf]
def qblg:IC:=zr [zv 5 (zd 2 2),zv 6 (zg 1 5),zv 7 (zq (.t 6) (zc 0)),zm 8 7,zw 8 true 9 (zo 1),zw 8 true 10 (zd 2 3),zw 8 true 11 (zg 1 10),zj 8 true 12 (.call (.t 9) [zI 11]),zv 13 (.pick (.t 8) (.t 12) (.c (.bool false))),zm 4 13]
def k0bw:IC:=(.seq qbt3 (.seq qblg .ret))
@[go_sem] def s0bw:List (RV×Co):=[(.t 4,.id)]
theorem c0bw:cFun Tryz.prog 89 = some (14,k0bw,s0bw):=by kernel_rfl

def qbl4:IC:=zr [zv 2 zf]
def qbts:IC:=zr [zm 3 0,zv 4 (.bin .neq .no (.t 3) (.c (.str []))),zm 5 4,zw 5 true 6 (zo 0),zw 5 true 7 (.bin .neq .no (.t 6) (.c (.str [95]))),zv 8 (.pick (.t 5) (.t 7) (.c (.bool false))),zm 9 8,zw 9 true 10 (zo 0),zw 9 true 11 (.idx (.t 10) (zc 0)),zj 9 true 12 (zk 142 [zI 11]),zv 13 (.pick (.t 9) (.t 12) (.c (.bool false))),zm 14 13,zw 14 true 15 (zo 0),zj 14 true 16 (zk 143 [zI 15]),zv 17 (.pick (.t 14) (.t 16) (.c (.bool false))),zm 18 17,zw 18 true 19 (zo 0),zj 18 true 20 (zk 144 [zI 19]),zw 18 true 21 (.un .not (.t 20)),zv 22 (.pick (.t 18) (.t 21) (.c (.bool false))),zm 2 22]
def k0cl:IC:=(.seq qbl4 (.seq qbts .ret))
@[go_sem] def s0cl:List (RV×Co):=[(.t 2,.id)]
theorem c0cl:cFun Tryz.prog 90 = some (23,k0cl,s0cl):=by kernel_rfl

def qbo0:IC:=zr [zv 2 zf]
def qboe:IC:=zr [zm 3 0,zv 4 (.bin .neq .no (.t 3) (.c (.str []))),zm 5 4,zw 5 true 6 (zo 0),zw 5 true 7 (.idx (.t 6) (zc 0)),zj 5 true 8 (zk 145 [zI 7]),zv 9 (.pick (.t 5) (.t 8) (.c (.bool false))),zm 10 9,zw 10 true 11 (zo 0),zj 10 true 12 (zk 143 [zI 11]),zv 13 (.pick (.t 10) (.t 12) (.c (.bool false))),zm 2 13]
def k0ck:IC:=(.seq qbo0 (.seq qboe .ret))
@[go_sem] def s0ck:List (RV×Co):=[(.t 2,.id)]
theorem c0ck:cFun Tryz.prog 91 = some (14,k0ck,s0ck):=by kernel_rfl

def qb5n:IC:=zr [zi 2 zaN,zv 3 zf]
def qbpp:IC:=zr [zm 8 0,zi 9 (zk 66 [zI 8]),zv 10 (.fld false 1 1 (.t 9)),zv 11 (.bld [(.int .i64 0),(.int .i64 0),(.int .i64 0),(.str []),.nils] [(0,1,(zc 4)),(1,1,(.t 10))]),zi 4 zaN,zn (.st 5 zN (.t 4) (.t 11))]
def qb04:IC:=zr [zm 13 0,zi 14 (zk 146 [zI 13]),zm 12 14,zv 15 (zx 12 0),zv 16 (zx 12 1),zm 5 15,zm 6 16]
def qbwo:IC:=zr [zm 17 6,zv 18 (.un .not (.t 17))]
def qbqs:IC:=zr [zv 19 (.bld [(.int .i64 0),(.int .i64 0),(.int .i64 0),(.str []),.nils] []),zn (.st 5 zN (.t 2) (.t 19)),zv 3 zf]
def qbmw:IC:=zr [zm 21 0,zi 22 (zk 93 [zI 21]),zm 20 22,zv 23 (zx 20 0),zv 24 (zx 20 1),zi 7 zaN,zn (.st 5 zN (.t 7) (.t 23)),zm 6 24]
def qbnd:IC:=zr [zm 25 5,zv 26 (zl 5 7),zv 27 (.bsl 5 [zA 26]),zi 28 (.app 5 zZ 64 (.sl 5) (.t 25) (.t 27)),zv 29 (zd 4 4),zn (.st 1 (.sl 5) (.t 29) (.t 28))]
def qbv1:IC:=zr [zm 30 0,zv 31 (zl 5 4),zm 32 6,zi 33 (zk 147 [zI 30,zA 31,zI 32]),zv 34 (zx 33 0),zv 35 (zx 33 1),zn (.st 5 zN (.t 2) (.t 34)),zm 3 35]
def k0dz:IC:=(.seq qb5n (.seq qbpp (.seq qb04 (.seq (.seq qbwo (.cond (.t 18) (.seq qbqs .ret) .skip)) (.seq qbmw (.seq qbnd (.seq qbv1 .ret)))))))
@[go_sem] def s0dz:List (RV×Co):=[(.c true 5 2,zN),(.t 3,.id)]
theorem c0dz:cFun Tryz.prog 92 = some (36,k0dz,s0dz):=by kernel_rfl

def qbsh:IC:=zr [zi 2 zaN,zv 3 zf]
def qb43:IC:=zr [zm 8 0,zi 9 (zk 95 [zI 8]),zv 10 (.un .not (.t 9))]
def qbsv:IC:=zr [zv 11 (.bld [(.int .i64 0),(.int .i64 0),(.int .i64 0),(.str []),.nils] []),zn (.st 5 zN (.t 2) (.t 11)),zv 3 zf]
def qb32:IC:=zr [zm 13 0,zi 14 (zk 148 [zI 13]),zm 12 14,zv 15 (zx 12 0),zv 16 (zx 12 1),zi 4 zaN,zn (.st 5 zN (.t 4) (.t 15)),zm 5 16]
def qbo8:IC:=zr [zm 17 5,zm 18 17,zw 18 true 19 (zo 0),zj 18 true 20 (zk 105 [zI 19,((.c (.str [45,62])),.id)]),zv 21 (.pick (.t 18) (.t 20) (.c (.bool false)))]
def qbx5:IC:=zr [zm 23 0,zi 24 (zk 93 [zI 23]),zm 22 24,zv 25 (zx 22 0),zv 26 (zx 22 1),zi 6 zaN,zn (.st 5 zN (.t 6) (.t 25)),zm 7 26]
def qblm:IC:=zr [zv 27 (zd 4 1),zv 28 (zg 1 27),zv 29 (zl 5 4),zv 30 (zl 5 6),zv 31 (.bsl 5 [zA 29,zA 30]),zv 32 (.bld [(.int .i64 0),(.int .i64 0),(.int .i64 0),(.str []),.nils] [(0,1,(zc 2)),(1,1,(.t 28)),(3,1,(.c (.str [45,62]))),(4,1,(.t 31))]),zm 33 7,zn (.st 5 zN (.t 4) (.t 32)),zm 5 33]
def qbnw:IC:=zr [zm 34 0,zi 35 (zk 98 [zI 34])]
def qb19:IC:=zr [zm 36 0,zv 37 (zl 5 4),zm 38 5,zi 39 (zk 147 [zI 36,zA 37,zI 38]),zv 40 (zx 39 0),zv 41 (zx 39 1),zn (.st 5 zN (.t 2) (.t 40)),zm 3 41]
def k0eh:IC:=(.seq qbsh (.seq (.seq qb43 (.cond (.t 10) (.seq qbsv .ret) .skip)) (.seq qb32 (.seq (.seq qbo8 (.cond (.t 21) (.seq qbx5 qblm) .skip)) (.seq qbnw (.seq qb19 .ret))))))
@[go_sem] def s0eh:List (RV×Co):=[(.c true 5 2,zN),(.t 3,.id)]
theorem c0eh:cFun Tryz.prog 93 = some (42,k0eh,s0eh):=by kernel_rfl

def qbxh:IC:=zr [zi 1 (.box (.t 0)),zv 2 (.mov (.c .nilf))]
def qblp:IC:=zr [zv 3 (.mfn 149 [] [(.t 1)]),zm 2 3]
def k0cq:IC:=(.seq qbxh (.seq qblp .ret))
@[go_sem] def s0cq:List (RV×Co):=[(.t 2,.id)]
theorem c0cq:cFun Tryz.prog 94 = some (4,k0cq,s0cq):=by kernel_rfl

def qbyb:IC:=zr [zv 2 zf]
def qbk9:IC:=zr [zm 3 0,zi 4 (zk 109 [zI 3]),zm 5 4,zw 5 false 6 (zo 0),zw 5 false 7 (.nck (.t 6)),zw 5 false 8 (zd 7 6),zw 5 false 9 (zg 1 8),zw 5 false 10 (.bin .geq .no (.t 9) (zc 200)),zv 11 (.pick (.t 5) (.c (.bool true)) (.t 10))]
def qb00:IC:=zr [zm 12 0,zi 13 (zk 152 [zI 12,((zc 2),.id)]),zm 2 13]
def qbsl:IC:=zr [zm 14 0,zv 15 (.nck (.t 14)),zv 16 (zd 15 6),zv 17 (zg 1 16),zv 18 (.bin .add .no (.t 17) (zc 1)),zv 19 (.nck (.t 14)),zv 20 (zd 19 6),zn (.st 1 .id (.t 20) (.t 18))]
def qb2m:IC:=zr [zv 2 (.mov (.c (.bool true)))]
def k0er:IC:=(.seq qbyb (.seq (.seq qbk9 (.cond (.t 11) (.seq qb00 .ret) .skip)) (.seq qbsl (.seq qb2m .ret))))
@[go_sem] def s0er:List (RV×Co):=[(.t 2,.id)]
theorem c0er:cFun Tryz.prog 95 = some (21,k0er,s0er):=by kernel_rfl

def qbz1:IC:=zr [zi 2 zaN,zv 3 zf]
def qbnp:IC:=zr [zm 9 0,zi 10 (zk 153 [zI 9]),zm 8 10,zv 11 (zx 8 0),zv 12 (zx 8 1),zi 4 zaN,zn (.st 5 zN (.t 4) (.t 11)),zm 5 12]
def qbyd:IC:=zr [zm 13 5]
def qbk3:IC:=zr [zm 14 0,zi 15 (zk 154 [zI 14])]
def qbqd:IC:=zr [zv 16 (zl 5 4),zn (.st 5 zN (.t 2) (.t 16)),zv 3 (.mov (.c (.bool true)))]
def qbwt:IC:=zr [zm 17 0,zi 18 (zk 155 [zI 17,((.c (.str [40])),.id)]),zv 19 (.un .not (.t 18))]
def qb4d:IC:=zr [zv 20 (.bld [(.int .i64 0),(.int .i64 0),(.int .i64 0),(.str []),.nils] []),zm 21 0,zi 22 (zk 152 [zI 21,((zc 5),.id)]),zn (.st 5 zN (.t 2) (.t 20)),zm 3 22]
def qblz:IC:=zr [zm 23 0,zi 24 (zk 95 [zI 23]),zv 25 (.un .not (.t 24))]
def qbyp:IC:=zr [zv 26 (.bld [(.int .i64 0),(.int .i64 0),(.int .i64 0),(.str []),.nils] []),zn (.st 5 zN (.t 2) (.t 26)),zv 3 zf]
def qbwf:IC:=zr [zm 27 0,zi 28 (zk 154 [zI 27])]
def qbbo:IC:=zr [zm 30 0,zi 31 (zk 54 [zI 30]),zm 29 31,zv 32 (zx 29 0),zv 33 (zx 29 1),zi 6 zaN,zn (.st 5 zN (.t 6) (.t 32)),zm 7 33]
def qbfo:IC:=zr [zm 34 7,zv 35 (.un .not (.t 34)),zm 36 35,zw 36 false 37 (zo 0),zj 36 false 38 (zk 156 [zI 37,((.c (.str [41])),.id)]),zw 36 false 39 (.un .not (.t 38)),zv 40 (.pick (.t 36) (.c (.bool true)) (.t 39))]
def qbg2:IC:=zr [zv 41 (.bld [(.int .i64 0),(.int .i64 0),(.int .i64 0),(.str []),.nils] []),zn (.st 5 zN (.t 2) (.t 41)),zv 3 zf]
def qbev:IC:=zr [zm 42 0,zi 43 (zk 98 [zI 42])]
def qbhd:IC:=zr [zv 44 (zl 5 6),zn (.st 5 zN (.t 2) (.t 44)),zv 3 (.mov (.c (.bool true)))]
def k0du:IC:=(.seq qbz1 (.seq (.seq qbnp (.seq qbyd (.cond (.t 13) (.seq qbk3 (.seq qbqd .ret)) .skip))) (.seq (.seq qbwt (.cond (.t 19) (.seq qb4d .ret) .skip)) (.seq (.seq qblz (.cond (.t 25) (.seq qbyp .ret) .skip)) (.seq qbwf (.seq qbbo (.seq (.seq qbfo (.cond (.t 40) (.seq qbg2 .ret) .skip)) (.seq qbev (.seq qbhd .ret)))))))))
@[go_sem] def s0du:List (RV×Co):=[(.c true 5 2,zN),(.t 3,.id)]
theorem c0du:cFun Tryz.prog 96 = some (45,k0du,s0du):=by kernel_rfl

def qbrp:IC:=zr [zv 2 zf]
def qbm4:IC:=zr [zm 6 0,zi 7 (zk 153 [zI 6]),zm 5 7,zv 8 (zx 5 0),zv 9 (zx 5 1),zi 3 zaN,zn (.st 5 zN (.t 3) (.t 8)),zm 4 9]
def qbwc:IC:=zr [zm 10 4,zm 11 10,zw 11 false 12 (zo 0),zj 11 false 13 (zk 155 [zI 12,((.c (.str [40])),.id)]),zv 14 (.pick (.t 11) (.c (.bool true)) (.t 13)),zm 2 14]
def k0dt:IC:=(.seq qbrp (.seq qbm4 (.seq qbwc .ret)))
@[go_sem] def s0dt:List (RV×Co):=[(.t 2,.id)]
theorem c0dt:cFun Tryz.prog 97 = some (15,k0dt,s0dt):=by kernel_rfl

def qbmi:IC:=zr [zm 2 0,zi 3 (zk 109 [zI 2]),zv 4 (.un .not (.t 3)),zm 5 4,zw 5 true 6 (zo 0),zw 5 true 7 (.nck (.t 6)),zw 5 true 8 (zd 7 6),zw 5 true 9 (zg 1 8),zw 5 true 10 (.bin .gtr .no (.t 9) (zc 0)),zv 11 (.pick (.t 5) (.t 10) (.c (.bool false)))]
def qb5u:IC:=zr [zm 12 0,zv 13 (.nck (.t 12)),zv 14 (zd 13 6),zv 15 (zg 1 14),zv 16 (.bin .sub .no (.t 15) (zc 1)),zv 17 (.nck (.t 12)),zv 18 (zd 17 6),zn (.st 1 .id (.t 18) (.t 16))]
def k0es:IC:=(.seq qbmi (.cond (.t 11) qb5u .skip))
@[go_sem] def s0es:List (RV×Co):=[]
theorem c0es:cFun Tryz.prog 98 = some (19,k0es,s0es):=by kernel_rfl

def qbrf:IC:=zr [zi 1 (.box (.t 0)),zv 2 zf]
def qbmo:IC:=zr [zv 3 (zl 5 1),zi 4 (zk 100 [zA 3]),zm 5 4,zw 5 false 6 (zl 5 1),zj 5 false 7 (zk 101 [zA 6]),zv 8 (.pick (.t 5) (.c (.bool true)) (.t 7)),zm 2 8]
def k0bm:IC:=(.seq qbrf (.seq qbmo .ret))
@[go_sem] def s0bm:List (RV×Co):=[(.t 2,.id)]
theorem c0bm:cFun Tryz.prog 99 = some (9,k0bm,s0bm):=by kernel_rfl

def qby4:IC:=zr [zi 1 (.box (.t 0)),zv 2 zf]
def qb0a:IC:=zr [zv 3 (zd 1 0),zv 4 (zg 1 3),zv 5 (zq (.t 4) (zc 31)),zm 6 5,zw 6 true 7 (zl 5 1),zj 6 true 8 (zk 89 [zA 7,((.c (.fn 90 [] [])),.id)]),zv 9 (.pick (.t 6) (.t 8) (.c (.bool false))),zm 10 9,zw 10 true 11 (zd 1 4),zw 10 true 12 (zg 1 11),zw 10 true 13 (.len false (.t 12)),zw 10 true 14 (zq (.t 13) (zc 1)),zv 15 (.pick (.t 10) (.t 14) (.c (.bool false))),zm 16 15,zw 16 true 17 (zd 1 4),zw 16 true 18 (zg 1 17),zw 16 true 19 (.iad 5 (.t 18) (zc 0)),zw 16 true 20 (zl 5 19),zj 16 true 21 (zk 57 [zA 20]),zv 22 (.pick (.t 16) (.t 21) (.c (.bool false))),zm 2 22]
def k0bo:IC:=(.seq qby4 (.seq qb0a .ret))
@[go_sem] def s0bo:List (RV×Co):=[(.t 2,.id)]
theorem c0bo:cFun Tryz.prog 100 = some (23,k0bo,s0bo):=by kernel_rfl

def qbm3:IC:=zr [zi 1 (.box (.t 0)),zv 2 zf]
def qbof:IC:=zr [zv 3 (zd 1 0),zv 4 (zg 1 3),zv 5 (zq (.t 4) (zc 32)),zm 6 5,zw 6 true 7 (zl 5 1),zj 6 true 8 (zk 89 [zA 7,((.c (.fn 90 [] [])),.id)]),zv 9 (.pick (.t 6) (.t 8) (.c (.bool false))),zm 10 9,zw 10 true 11 (zd 1 4),zw 10 true 12 (zg 1 11),zw 10 true 13 (.len false (.t 12)),zw 10 true 14 (zq (.t 13) (zc 1)),zv 15 (.pick (.t 10) (.t 14) (.c (.bool false))),zm 16 15,zw 16 true 17 (zd 1 4),zw 16 true 18 (zg 1 17),zw 16 true 19 (.iad 5 (.t 18) (zc 0)),zw 16 true 20 (zl 5 19),zj 16 true 21 (zk 157 [zA 20]),zv 22 (.pick (.t 16) (.t 21) (.c (.bool false))),zm 2 22]
def k0bu:IC:=(.seq qbm3 (.seq qbof .ret))
@[go_sem] def s0bu:List (RV×Co):=[(.t 2,.id)]
theorem c0bu:cFun Tryz.prog 101 = some (23,k0bu,s0bu):=by kernel_rfl

def qbzc:IC:=zr [zi 1 (.box (.t 0)),zv 2 zf]
def qbqk:IC:=zr [zv 3 (zd 1 0),zv 4 (zg 1 3),zv 5 (zq (.t 4) (zc 15)),zm 6 5,zw 6 true 7 (zl 5 1),zj 6 true 8 (zk 67 [zA 7]),zv 9 (.pick (.t 6) (.t 8) (.c (.bool false))),zm 10 9,zw 10 true 11 (zd 1 4),zw 10 true 12 (zg 1 11),zw 10 true 13 (.len false (.t 12)),zw 10 true 14 (zq (.t 13) (zc 2)),zv 15 (.pick (.t 10) (.t 14) (.c (.bool false))),zm 16 15,zw 16 true 17 (zd 1 4),zw 16 true 18 (zg 1 17),zw 16 true 19 (.iad 5 (.t 18) (zc 0)),zw 16 true 20 (zl 5 19),zj 16 true 21 (zk 51 [zA 20]),zv 22 (.pick (.t 16) (.t 21) (.c (.bool false))),zm 23 22,zw 23 true 24 (zd 1 4),zw 23 true 25 (zg 1 24),zw 23 true 26 (.iad 5 (.t 25) (zc 1)),zw 23 true 27 (zl 5 26),zj 23 true 28 (zk 57 [zA 27]),zv 29 (.pick (.t 23) (.t 28) (.c (.bool false))),zm 2 29]
def k0bp:IC:=(.seq qbzc (.seq qbqk .ret))
@[go_sem] def s0bp:List (RV×Co):=[(.t 2,.id)]
theorem c0bp:cFun Tryz.prog 102 = some (30,k0bp,s0bp):=by kernel_rfl

def qbj4:IC:=zr [zi 2 zaN,zv 3 zf]
def qbrv:IC:=zr [zm 5 0,zi 6 (zk 66 [zI 5]),zv 7 (.fld false 1 1 (.t 6)),zv 8 (.bld [(.int .i64 0),(.int .i64 0),(.int .i64 0),(.str []),.nils] [(1,1,(.t 7))]),zi 4 zaN,zn (.st 5 zN (.t 4) (.t 8))]
def qbr5:IC:=zr [zm 10 0,zi 11 (zk 105 [zI 10,((.c (.str [92])),.id)]),zm 9 11]
def qbww:IC:=zr [zm 12 0,zi 13 (zk 66 [zI 12]),zv 14 (.fld false 1 0 (.t 13)),zv 15 (.bin .neq .no (.t 14) (zc 1))]
def qbji:IC:=.drw [zp (zv 16 (zl 5 4)),zp (zm 17 0),(zi 18 (zk 152 [zI 17,((zc 5),.id)]),[0]),(zn (.st 5 zN (.t 2) (.t 16)),[]),zp (zm 3 18)]
def qbte:IC:=zr [zm 19 0,zi 20 (zk 158 [zI 19,((.c (.str [45,62])),.id)]),zv 21 (zx 20 0),zv 22 (zx 20 1),zn (.st 5 zN (.t 2) (.t 21)),zm 3 22]
def qbpc:IC:=zr [zm 24 0,zi 25 (zk 105 [zI 24,((.c (.str [108,101,116])),.id)]),zm 23 25]
def qbwb:IC:=zr [zm 26 0,zv 27 (zl 5 4),zi 28 (zk 159 [zI 26,zA 27]),zv 29 (zx 28 0),zv 30 (zx 28 1),zn (.st 5 zN (.t 2) (.t 29)),zm 3 30]
def qbml:IC:=zr [zm 32 0,zi 33 (zk 105 [zI 32,((.c (.str [99,97,115,101])),.id)]),zm 31 33]
def qbr9:IC:=zr [zm 34 0,zv 35 (zl 5 4),zi 36 (zk 160 [zI 34,zA 35]),zv 37 (zx 36 0),zv 38 (zx 36 1),zn (.st 5 zN (.t 2) (.t 37)),zm 3 38]
def qbed:IC:=zr [zm 40 0,zi 41 (zk 105 [zI 40,((.c (.str [105,102])),.id)]),zm 39 41]
def qben:IC:=zr [zm 42 0,zv 43 (zl 5 4),zi 44 (zk 161 [zI 42,zA 43]),zv 45 (zx 44 0),zv 46 (zx 44 1),zn (.st 5 zN (.t 2) (.t 45)),zm 3 46]
def qbfv:IC:=zr [zm 47 0,zi 48 (zk 162 [zI 47]),zv 49 (zx 48 0),zv 50 (zx 48 1),zn (.st 5 zN (.t 2) (.t 49)),zm 3 50]
def k0dj:IC:=(.seq qbj4 (.seq qbrv (.seq (.block 0 (.seq qbr5 (.cond (.t 9) (.seq (.seq qbww (.cond (.t 15) (.seq qbji .ret) .skip)) (.seq qbte .ret)) (.seq qbpc (.cond (.t 23) (.seq qbwb .ret) (.seq qbml (.cond (.t 31) (.seq qbr9 .ret) (.seq qbed (.cond (.t 39) (.seq qben .ret) .skip))))))))) (.seq qbfv .ret))))
@[go_sem] def s0dj:List (RV×Co):=[(.c true 5 2,zN),(.t 3,.id)]
theorem c0dj:cFun Tryz.prog 103 = some (51,k0dj,s0dj):=by kernel_rfl

def qbum:IC:=zr [zv 3 zf]
def qbvd:IC:=zr [zv 4 (zg 1 0)]
def qbwm:IC:=zr [zv 5 (zg 1 1),zv 6 (zg 1 2),zi 7 (zk 105 [zI 5,zI 6]),zm 3 7]
def qbrh:IC:=zr [zn (.st 1 .id (.t 0) (.c (.bool true)))]
def qbwn:IC:=zr [zv 3 (.mov (.c (.bool true)))]
def k0fj:IC:=(.seq qbum (.seq (.seq qbvd (.cond (.t 4) (.seq qbwm .ret) .skip)) (.seq qbrh (.seq qbwn .ret))))
@[go_sem] def s0fj:List (RV×Co):=[(.t 3,.id)]
theorem c0fj:cFun Tryz.prog 104 = some (8,k0fj,s0fj):=by kernel_rfl

def qb2w:IC:=zr [zv 4 zf]
def qbuy:IC:=zr [zm 5 0,zm 6 1,zi 7 (zk 155 [zI 5,zI 6]),zv 8 (.un .not (.t 7))]
def qbj6:IC:=zr [zv 4 zf]
def qbo2:IC:=zr [zm 9 0,zi 10 (zk 154 [zI 9])]
def qb3b:IC:=zr [zv 4 (.mov (.c (.bool true)))]
def k0ep:IC:=(.seq qb2w (.seq (.seq qbuy (.cond (.t 8) (.seq qbj6 .ret) .skip)) (.seq qbo2 (.seq qb3b .ret))))
@[go_sem] def s0ep:List (RV×Co):=[(.t 4,.id)]
theorem c0ep:cFun Tryz.prog 105 = some (11,k0ep,s0ep):=by kernel_rfl

def qbvh:IC:=zr [zi 2 (.box (.t 0)),zi 3 (.box (.t 1)),zi 4 zaN,zv 5 zf]
def qbyc:IC:=zr [zv 11 (zg 1 2),zi 12 (zk 163 [zI 11,((zc 2),.id)]),zm 10 12,zv 13 (zx 10 0),zv 14 (zx 10 1),zi 6 zaT,zn (.st 4 .id (.t 6) (.t 13)),zm 7 14]
def qbi7:IC:=zr [zm 15 7,zv 16 (.un .not (.t 15))]
def qbv4:IC:=zr [zv 17 (zl 5 3),zn (.st 5 zN (.t 4) (.t 17)),zv 5 zf]
def qb1c:IC:=zr [zv 19 (.mfn 164 [] [(.t 2)]),zv 20 (.mfn 166 [] [(.t 2)]),zi 21 (zk 62 [((.c .nils),(.sl 5)),zI 19,zI 20]),zm 18 21,zv 22 (zx 18 0),zv 23 (zx 18 1),zm 8 22,zm 9 23]
def qbju:IC:=zr [zv 24 (zg 1 2),zi 25 (zk 156 [zI 24,((.c (.str [61])),.id)]),zv 26 (.un .not (.t 25))]
def qbrc:IC:=zr [zv 27 (zl 5 3),zn (.st 5 zN (.t 4) (.t 27)),zv 5 zf]
def qb12:IC:=.drw [zp (zv 28 (zd 6 3)),zp (zv 29 (zg 1 28)),zp (zm 30 8),zp (zv 31 (.len false (.t 30))),zp (zv 32 (zd 3 0)),(zn (.st 1 .id (.t 32) (zc 33)),[1]),zp (zv 33 (zd 3 3)),(zn (.st 1 .id (.t 33) (.t 29)),[]),zp (zv 34 (zd 3 2)),(zn (.st 1 .id (.t 34) (.t 31)),[])]
def qbzp:IC:=zr [zm 36 8,zv 37 (.mfn 167 [] [(.t 2)]),zv 38 (zg 1 2),zi 39 (zk 61 [zI 38,((.c (.str [124])),.id)]),zi 40 (zk 62 [((.t 36),(.sl 5)),zI 37,zI 39]),zm 35 40,zv 41 (zx 35 0),zv 42 (zx 35 1),zv 43 (zd 3 4),zn (.st 1 (.sl 5) (.t 43) (.t 41)),zm 7 42]
def qb5j:IC:=zr [zv 44 (zl 5 3),zm 45 7,zn (.st 5 zN (.t 4) (.t 44)),zm 5 45]
def k0fh:IC:=(.seq qbvh (.seq qbyc (.seq (.seq qbi7 (.cond (.t 16) (.seq qbv4 .ret) .skip)) (.seq qb1c (.seq (.seq qbju (.cond (.t 26) (.seq qbrc .ret) .skip)) (.seq qb12 (.seq qbzp (.seq qb5j .ret))))))))
@[go_sem] def s0fh:List (RV×Co):=[(.c true 5 4,zN),(.t 5,.id)]
theorem c0fh:cFun Tryz.prog 106 = some (46,k0fh,s0fh):=by kernel_rfl

def qbse:IC:=zr [zi 3 (.box (.t 1)),zi 4 zaN,zv 5 zf]
def qbqn:IC:=zr [zm 12 0,zi 13 (zk 146 [zI 12]),zm 11 13,zv 14 (zx 11 0),zv 15 (zx 11 1),zm 6 14,zm 7 15]
def qb4i:IC:=zr [zm 16 7,zv 17 (.un .not (.t 16))]
def qble:IC:=zr [zv 18 (zl 5 3),zn (.st 5 zN (.t 4) (.t 18)),zv 5 zf]
def qb2s:IC:=zr [zm 20 0,zi 21 (zk 163 [zI 20,((zc 2),.id)]),zm 19 21,zv 22 (zx 19 0),zv 23 (zx 19 1),zi 8 zaT,zn (.st 4 .id (.t 8) (.t 22)),zm 7 23]
def qb0i:IC:=zr [zm 24 7,zv 25 (.un .not (.t 24))]
def qbpg:IC:=zr [zv 26 (zl 5 3),zn (.st 5 zN (.t 4) (.t 26)),zv 5 zf]
def qbl7:IC:=zr [zv 27 (zd 8 3),zv 28 (zg 1 27),zm 29 6,zv 30 (.len false (.t 29)),zv 31 (zd 3 3),zn (.st 1 .id (.t 31) (.t 28)),zv 32 (zd 3 2),zn (.st 1 .id (.t 32) (.t 30))]
def qbjw:IC:=zr [zv 9 (.mov (zc 31))]
def qbx9:IC:=zr [zv 33 (zd 3 0),zv 34 (zg 1 33),zv 35 (zq (.t 34) (zc 35))]
def qbar:IC:=zr [zv 9 (.mov (zc 32))]
def qbf4:IC:=zr [zm 36 0,zi 37 (zk 66 [zI 36]),zv 38 (.fld false 1 0 (.t 37)),zv 39 (.bin .neq .no (.t 38) (zc 1))]
def qbha:IC:=.drw [zp (zv 40 (zl 5 3)),zp (zm 41 0),(zi 42 (zk 152 [zI 41,((zc 5),.id)]),[0]),(zn (.st 5 zN (.t 4) (.t 40)),[]),zp (zm 5 42)]
def qbb2:IC:=zr [zm 44 0,zi 45 (zk 165 [zI 44]),zm 43 45,zv 46 (zx 43 0),zv 47 (zx 43 1),zi 10 zaN,zn (.st 5 zN (.t 10) (.t 46)),zm 7 47]
def qbae:IC:=zr [zm 48 7,zv 49 (.un .not (.t 48))]
def qbfz:IC:=zr [zv 50 (zl 5 3),zn (.st 5 zN (.t 4) (.t 50)),zv 5 zf]
def qbg0:IC:=zr [zm 52 0,zm 53 6,zv 54 (zl 5 10),zv 55 (.bsl 5 [zA 54]),zi 56 (.app 5 zZ 64 (.sl 5) (.t 53) (.t 55)),zm 57 9,zi 58 (zk 169 [zI 52,((.t 56),(.sl 5)),zI 57]),zm 51 58,zv 59 (zx 51 0),zv 60 (zx 51 1),zv 61 (zd 3 4),zn (.st 1 (.sl 5) (.t 61) (.t 59)),zm 7 60]
def qbgq:IC:=zr [zv 62 (zl 5 3),zm 63 7,zn (.st 5 zN (.t 4) (.t 62)),zm 5 63]
def k0fb:IC:=(.seq qbse (.seq qbqn (.seq (.seq qb4i (.cond (.t 17) (.seq qble .ret) .skip)) (.seq qb2s (.seq (.seq qb0i (.cond (.t 25) (.seq qbpg .ret) .skip)) (.seq qbl7 (.seq qbjw (.seq (.seq qbx9 (.cond (.t 35) (.seq qbar (.seq qbf4 (.cond (.t 39) (.seq qbha .ret) .skip))) .skip)) (.seq qbb2 (.seq (.seq qbae (.cond (.t 49) (.seq qbfz .ret) .skip)) (.seq qbg0 (.seq qbgq .ret))))))))))))
@[go_sem] def s0fb:List (RV×Co):=[(.c true 5 4,zN),(.t 5,.id)]
theorem c0fb:cFun Tryz.prog 107 = some (64,k0fb,s0fb):=by kernel_rfl

def qb02:IC:=zr [zi 2 zaN,zv 3 zf]
def qbr2:IC:=zr [zm 9 0,zi 10 (zk 163 [zI 9,((zc 1),.id)]),zm 8 10,zv 11 (zx 8 0),zv 12 (zx 8 1),zi 4 zaT,zn (.st 4 .id (.t 4) (.t 11)),zm 5 12]
def qbt7:IC:=zr [zm 13 5,zv 14 (.un .not (.t 13))]
def qb29:IC:=zr [zv 15 (.bld [(.int .i64 0),(.int .i64 0),(.int .i64 0),(.str []),.nils] []),zn (.st 5 zN (.t 2) (.t 15)),zv 3 zf]
def qb37:IC:=zr [zv 16 (zd 4 1),zv 17 (zg 1 16),zv 18 (zd 4 3),zv 19 (zg 1 18),zv 20 (.bld [(.int .i64 0),(.int .i64 0),(.int .i64 0),(.str []),.nils] [(0,1,(zc 31)),(1,1,(.t 17)),(3,1,(.t 19))]),zi 6 zaN,zn (.st 5 zN (.t 6) (.t 20))]
def qbzg:IC:=zr [zi 7 zaN]
def qbkw:IC:=zr [zm 21 0,zi 22 (zk 105 [zI 21,((.c (.str [58,58])),.id)])]
def qbvx:IC:=zr [zv 23 (zd 6 0),zn (.st 1 .id (.t 23) (zc 32))]
def qb3g:IC:=zr [zm 25 0,zi 26 (zk 92 [zI 25]),zm 24 26,zv 27 (zx 24 0),zv 28 (zx 24 1),zn (.st 5 zN (.t 7) (.t 27)),zm 5 28]
def qbrm:IC:=zr [zm 30 0,zi 31 (zk 158 [zI 30,((.c (.str [61])),.id)]),zm 29 31,zv 32 (zx 29 0),zv 33 (zx 29 1),zn (.st 5 zN (.t 7) (.t 32)),zm 5 33]
def qbei:IC:=zr [zm 34 5,zv 35 (.un .not (.t 34))]
def qbdy:IC:=zr [zv 36 (.bld [(.int .i64 0),(.int .i64 0),(.int .i64 0),(.str []),.nils] []),zn (.st 5 zN (.t 2) (.t 36)),zv 3 zf]
def qbe4:IC:=zr [zv 37 (zl 5 7),zv 38 (.bsl 5 [zA 37]),zv 39 (zd 6 4),zn (.st 1 (.sl 5) (.t 39) (.t 38))]
def qbap:IC:=zr [zv 40 (zl 5 6),zn (.st 5 zN (.t 2) (.t 40)),zv 3 (.mov (.c (.bool true)))]
def k0do:IC:=(.seq qb02 (.seq qbr2 (.seq (.seq qbt7 (.cond (.t 14) (.seq qb29 .ret) .skip)) (.seq qb37 (.seq qbzg (.seq (.seq qbkw (.cond (.t 22) (.seq qbvx qb3g) qbrm)) (.seq (.seq qbei (.cond (.t 35) (.seq qbdy .ret) .skip)) (.seq qbe4 (.seq qbap .ret)))))))))
@[go_sem] def s0do:List (RV×Co):=[(.c true 5 2,zN),(.t 3,.id)]
theorem c0do:cFun Tryz.prog 108 = some (41,k0do,s0do):=by kernel_rfl

def qb48:IC:=zr [zv 2 zf]
def qboh:IC:=zr [zm 3 0,zv 4 (.bin .eql .ptr (.t 3) (.c .nilp)),zm 5 4,zw 5 false 6 (zo 0),zw 5 false 7 (.nck (.t 6)),zw 5 false 8 (zd 7 7),zw 5 false 9 (zg 1 8),zw 5 false 10 (.bin .neq .no (.t 9) (zc 0)),zv 11 (.pick (.t 5) (.c (.bool true)) (.t 10)),zm 2 11]
def k0ej:IC:=(.seq qb48 (.seq qboh .ret))
@[go_sem] def s0ej:List (RV×Co):=[(.t 2,.id)]
theorem c0ej:cFun Tryz.prog 109 = some (12,k0ej,s0ej):=by kernel_rfl

def qbmb:IC:=zr [zi 1 (.box (.t 0)),zv 2 zf]
def qbxy:IC:=zr [zv 3 (zd 1 0),zv 4 (zg 1 3),zv 5 (zq (.t 4) (zc 1)),zm 6 5,zw 6 true 7 (zl 5 1),zj 6 true 8 (zk 48 [zA 7]),zv 9 (.pick (.t 6) (.t 8) (.c (.bool false))),zm 2 9]
def k0bf:IC:=(.seq qbmb (.seq qbxy .ret))
@[go_sem] def s0bf:List (RV×Co):=[(.t 2,.id)]
theorem c0bf:cFun Tryz.prog 110 = some (10,k0bf,s0bf):=by kernel_rfl

def qbpy:IC:=zr [zi 1 (.box (.t 0)),zv 2 zf]
def qbqj:IC:=zr [zv 3 (zd 1 0),zv 4 (zg 1 3),zv 5 (zq (.t 4) (zc 34)),zm 6 5,zw 6 true 7 (zl 5 1),zj 6 true 8 (zk 89 [zA 7,((.c (.fn 91 [] [])),.id)]),zv 9 (.pick (.t 6) (.t 8) (.c (.bool false))),zm 10 9,zw 10 true 11 (zd 1 4),zw 10 true 12 (zg 1 11),zj 10 true 13 (zk 68 [((.t 12),(.sl 5)),((.c (.fn 48 [] [])),.id)]),zv 14 (.pick (.t 10) (.t 13) (.c (.bool false))),zm 2 14]
def k0bg:IC:=(.seq qbpy (.seq qbqj .ret))
@[go_sem] def s0bg:List (RV×Co):=[(.t 2,.id)]
theorem c0bg:cFun Tryz.prog 111 = some (15,k0bg,s0bg):=by kernel_rfl

def qbl0:IC:=zr [zi 1 (.box (.t 0)),zv 2 zf]
def qboj:IC:=zr [zv 3 (zd 1 0),zv 4 (zg 1 3),zv 5 (zq (.t 4) (zc 3)),zm 6 5,zw 6 true 7 (zl 5 1),zj 6 true 8 (zk 89 [zA 7,((.c (.fn 91 [] [])),.id)]),zv 9 (.pick (.t 6) (.t 8) (.c (.bool false))),zm 10 9,zw 10 true 11 (zd 1 4),zw 10 true 12 (zg 1 11),zw 10 true 13 (.len false (.t 12)),zw 10 true 14 (zq (.t 13) (zc 1)),zv 15 (.pick (.t 10) (.t 14) (.c (.bool false))),zm 16 15,zw 16 true 17 (zd 1 4),zw 16 true 18 (zg 1 17),zw 16 true 19 (.iad 5 (.t 18) (zc 0)),zw 16 true 20 (zl 5 19),zj 16 true 21 (zk 48 [zA 20]),zv 22 (.pick (.t 16) (.t 21) (.c (.bool false))),zm 2 22]
def k0bs:IC:=(.seq qbl0 (.seq qboj .ret))
@[go_sem] def s0bs:List (RV×Co):=[(.t 2,.id)]
theorem c0bs:cFun Tryz.prog 112 = some (23,k0bs,s0bs):=by kernel_rfl

def qb2t:IC:=zr [zi 1 (.box (.t 0)),zv 2 (.mov (.c (.str [])))]
def qbmm:IC:=.drw [zp (zv 3 (zd 1 3)),zp (zv 4 (zg 1 3)),zp (zv 5 (zd 1 4)),zp (zv 6 (zg 1 5)),zp (zv 7 (.iad 5 (.t 6) (zc 0))),zp (zv 8 (zl 5 7)),(zi 9 (zk 119 [zA 8]),[1]),zp (zv 10 (.bin .add .no (.t 4) (.t 9))),zp (zm 2 10)]
def k0ba:IC:=(.seq qb2t (.seq qbmm .ret))
@[go_sem] def s0ba:List (RV×Co):=[(.t 2,.id)]
theorem c0ba:cFun Tryz.prog 118 = some (11,k0ba,s0ba):=by kernel_rfl

def qcby:IC:=zr [zi 1 (.box (.t 0)),zv 2 (.mov (.c (.str [])))]
def qcct:IC:=.drw [zp (zv 3 (zl 5 1)),(zv 4 (.bld [(.int .i64 0),(.int .i64 0),(.int .i64 0),(.str []),.nils] [(0,5,(.t 3))]),[]),(zv 5 (.mki 37 (.t 4) zN),[]),zp (zv 6 (zl 5 1)),(zi 7 (zk 134 [zA 6]),[0,2]),(zi 8 (zk 131 [zI 5,zI 7]),[]),(zv 9 (.bin .add .no (.c (.str [32])) (.t 8)),[]),zp (zm 2 9)]
def k0y:IC:=(.seq qcby (.seq qcct .ret))
@[go_sem] def s0y:List (RV×Co):=[(.t 2,.id)]
theorem c0y:cFun Tryz.prog 119 = some (10,k0y,s0y):=by kernel_rfl

def qb3w:IC:=zr [zv 2 (.mov (.c (.int .u64 0)))]
def qb0l:IC:=zr [zm 3 0,zv 4 (.bin .lss .no (.t 3) (zc 0))]
def qbn2:IC:=zr [zm 5 0,zv 6 (.cvi .u64 (.t 5)),zv 7 (.un .neg (.t 6)),zm 2 7]
def qb5h:IC:=zr [zm 8 0,zv 9 (.cvi .u64 (.t 8)),zm 2 9]
def k0cm:IC:=(.seq qb3w (.seq (.seq qb0l (.cond (.t 4) (.seq qbn2 .ret) .skip)) (.seq qb5h .ret)))
@[go_sem] def s0cm:List (RV×Co):=[(.t 2,.id)]
theorem c0cm:cFun Tryz.prog 124 = some (10,k0cm,s0cm):=by kernel_rfl

def qca7:IC:=zr [zv 4 (.mov (.c (.str [])))]
def qb9n:IC:=zr [zm 5 1]
def qb9r:IC:=zr [zm 6 0,zi 7 (zk 46 [zI 6]),zm 4 7]
def qb7e:IC:=zr [zm 8 0,zi 9 (zk 46 [zI 8]),zv 10 (.bin .add .no (.c (.str [40])) (.t 9)),zv 11 (.bin .add .no (.t 10) (.c (.str [41]))),zm 4 11]
def k0w:IC:=(.seq qca7 (.seq (.seq qb9n (.cond (.t 5) (.seq qb9r .ret) .skip)) (.seq qb7e .ret)))
@[go_sem] def s0w:List (RV×Co):=[(.t 4,.id)]
theorem c0w:cFun Tryz.prog 131 = some (12,k0w,s0w):=by kernel_rfl

def qbqb:IC:=zr [zv 2 (.mov (.c (.str [])))]
def qbsc:IC:=zr [zm 6 0,zv 7 (.cvi .u64 (.t 6)),zm 3 7]
def qbsm:IC:=zr [zm 8 0,zv 9 (.bin .lss .no (.t 8) (zc 0))]
def qbla:IC:=zr [zm 10 3,zv 11 (.un .neg (.t 10)),zm 3 11]
def qb5f:IC:=zr [zi 4 (.alo [(.int .u8 0),(.int .u8 0),(.int .u8 0),(.int .u8 0),(.int .u8 0),(.int .u8 0),(.int .u8 0),(.int .u8 0),(.int .u8 0),(.int .u8 0),(.int .u8 0),(.int .u8 0),(.int .u8 0),(.int .u8 0),(.int .u8 0),(.int .u8 0),(.int .u8 0),(.int .u8 0),(.int .u8 0),(.int .u8 0)])]
def qb0m:IC:=zr [zv 5 (.mov (zc 20))]
def qbvk:IC:=zr [zm 12 5,zv 13 (.bin .sub .no (.t 12) (zc 1)),zm 5 13]
def qbrb:IC:=zr [zm 14 5,zm 15 3,zv 16 (.bin .rem .no (.t 15) (.c (.int .u64 10))),zv 17 (.bin .add .no (.c (.int .u64 48)) (.t 16)),zv 18 (.cvi .u8 (.t 17)),zv 19 (.aad 1 20 (.t 4) (.t 14)),zn (.st 1 .id (.t 19) (.t 18))]
def qbug:IC:=zr [zm 20 3,zv 21 (.bin .quo .no (.t 20) (.c (.int .u64 10))),zm 3 21]
def qba7:IC:=zr [zm 22 3,zv 23 (zq (.t 22) (.c (.int .u64 0)))]
def qbja:IC:=(.block 1 (.seq qbvk (.seq qbrb (.seq qbug (.seq qba7 (.cond (.t 23) (.exit 0) .skip))))))
def qbgi:IC:=zr [zm 24 0,zv 25 (.bin .lss .no (.t 24) (zc 0))]
def qbdw:IC:=zr [zm 26 5,zv 27 (.sla 20 (.t 4) (.t 26)),zv 28 (.cbs (.t 27)),zv 29 (.bin .add .no (.c (.str [45])) (.t 28)),zm 2 29]
def qbfu:IC:=zr [zm 30 5,zv 31 (.sla 20 (.t 4) (.t 30)),zv 32 (.cbs (.t 31)),zm 2 32]
def k0co:IC:=(.seq qbqb (.seq qbsc (.seq (.seq qbsm (.cond (.t 9) qbla .skip)) (.seq qb5f (.seq qb0m (.seq (.block 0 (.loop qbja)) (.seq (.seq qbgi (.cond (.t 25) (.seq qbdw .ret) .skip)) (.seq qbfu .ret))))))))
@[go_sem] def s0co:List (RV×Co):=[(.t 2,.id)]
theorem c0co:cFun Tryz.prog 132 = some (33,k0co,s0co):=by kernel_rfl

def qb56:IC:=zr [zi 1 (.box (.t 0)),zv 2 (.mov (.c (.str [])))]
def qbvt:IC:=.drw [zp (zv 3 (zl 5 1)),(zv 4 (.bld [(.int .i64 0),(.int .i64 0),(.int .i64 0),(.str []),.nils] [(0,5,(.t 3))]),[]),(zv 5 (.mki 38 (.t 4) zN),[]),zp (zv 6 (zl 5 1)),(zi 7 (zk 134 [zA 6]),[0,2]),(zi 8 (zk 131 [zI 5,zI 7]),[]),(zv 9 (.bin .add .no (.c (.str [32])) (.t 8)),[]),zp (zm 2 9)]
def k0bd:IC:=(.seq qb56 (.seq qbvt .ret))
@[go_sem] def s0bd:List (RV×Co):=[(.t 2,.id)]
theorem c0bd:cFun Tryz.prog 133 = some (10,k0bd,s0bd):=by kernel_rfl

def qcb5:IC:=zr [zi 1 (.box (.t 0)),zv 2 zf]
def qcbr:IC:=zr [zv 3 (zd 1 4),zv 4 (zg 1 3),zv 5 (.len false (.t 4)),zv 6 (zq (.t 5) (zc 0)),zm 2 6]
def k0v:IC:=(.seq qcb5 (.seq qcbr .ret))
@[go_sem] def s0v:List (RV×Co):=[(.t 2,.id)]
theorem c0v:cFun Tryz.prog 134 = some (7,k0v,s0v):=by kernel_rfl

def qca4:IC:=zr [zv 3 (.mov (.c (.str [])))]
def qcc2:IC:=zr [zv 4 (zd 1 4),zv 5 (zg 1 4),zm 6 0,zv 7 (.iad 5 (.t 5) (.t 6)),zv 8 (zl 5 7),zv 9 (.bld [(.int .i64 0),(.int .i64 0),(.int .i64 0),(.str []),.nils] [(0,5,(.t 8))]),zv 10 (.mki 39 (.t 9) zN),zi 11 (zk 46 [zI 10]),zm 3 11]
def k0q:IC:=(.seq qca4 (.seq qcc2 .ret))
@[go_sem] def s0q:List (RV×Co):=[(.t 3,.id)]
theorem c0q:cFun Tryz.prog 135 = some (12,k0q,s0q):=by kernel_rfl

def qb7w:IC:=zr [zv 2 (.mov (.c (.str [])))]
def qb9v:IC:=zr [zm 3 0,zi 4 (zk 44 [((.t 3),(.sl 5)),((.c (.str [59,32])),.id),((.c (.fn 179 [] [])),.id)]),zi 5 (zk 137 [zI 4]),zm 2 5]
def k0s:IC:=(.seq qb7w (.seq qb9v .ret))
@[go_sem] def s0s:List (RV×Co):=[(.t 2,.id)]
theorem c0s:cFun Tryz.prog 136 = some (6,k0s,s0s):=by kernel_rfl

def qcbk:IC:=zr [zv 2 (.mov (.c (.str [])))]
def qccq:IC:=zr [zm 3 0,zv 4 (zq (.t 3) (.c (.str [])))]
def qb83:IC:=zr [zv 2 (.mov (.c (.str [123,32,125])))]
def qcbz:IC:=zr [zm 5 0,zv 6 (.bin .add .no (.c (.str [123,32])) (.t 5)),zv 7 (.bin .add .no (.t 6) (.c (.str [32,125]))),zm 2 7]
def k0r:IC:=(.seq qcbk (.seq (.seq qccq (.cond (.t 4) (.seq qb83 .ret) .skip)) (.seq qcbz .ret)))
@[go_sem] def s0r:List (RV×Co):=[(.t 2,.id)]
theorem c0r:cFun Tryz.prog 137 = some (8,k0r,s0r):=by kernel_rfl

def qb6y:IC:=zr [zi 1 (.box (.t 0)),zv 2 (.mov (.c (.str [])))]
def qb7l:IC:=.drw [zp (zv 3 (zd 1 4)),zp (zv 4 (zg 1 3)),zp (zv 5 (.iad 5 (.t 4) (zc 0))),zp (zv 6 (zl 5 5)),(zv 7 (.bld [(.int .i64 0),(.int .i64 0),(.int .i64 0),(.str []),.nils] [(0,5,(.t 6))]),[]),(zv 8 (.mki 38 (.t 7) zN),[]),(zi 9 (zk 46 [zI 8]),[]),(zv 10 (.bin .add .no (.t 9) (.c (.str [32,45,62,32]))),[]),zp (zv 11 (zd 1 4)),(zv 12 (zg 1 11),[6]),zp (zv 13 (.iad 5 (.t 12) (zc 1))),(zv 14 (zl 5 13),[6]),(zv 15 (.bld [(.int .i64 0),(.int .i64 0),(.int .i64 0),(.str []),.nils] [(0,5,(.t 14))]),[]),(zv 16 (.mki 39 (.t 15) zN),[6]),(zi 17 (zk 46 [zI 16]),[]),zp (zv 18 (.bin .add .no (.t 10) (.t 17))),zp (zm 2 18)]
def k0u:IC:=(.seq qb6y (.seq qb7l .ret))
@[go_sem] def s0u:List (RV×Co):=[(.t 2,.id)]
theorem c0u:cFun Tryz.prog 138 = some (19,k0u,s0u):=by kernel_rfl

def qb81:IC:=zr [zi 1 (.box (.t 0)),zv 2 (.mov (.c (.str [])))]
def qcb3:IC:=zr [zv 3 (zl 5 1),zv 4 (.bld [(.int .i64 0),(.int .i64 0),(.int .i64 0),(.str []),.nils] [(0,5,(.t 3))]),zv 5 (.mki 37 (.t 4) zN),zi 6 (zk 46 [zI 5]),zm 2 6]
def k0n:IC:=(.seq qb81 (.seq qcb3 .ret))
@[go_sem] def s0n:List (RV×Co):=[(.t 2,.id)]
theorem c0n:cFun Tryz.prog 139 = some (7,k0n,s0n):=by kernel_rfl

def qbuv:IC:=zr [zv 4 (zl 5 1),zv 5 (zg 1 2),zm 6 0,zi 7 (zk 141 [zA 4,zI 5,zI 6])]
def k0cb:IC:=qbuv
@[go_sem] def s0cb:List (RV×Co):=[]
theorem c0cb:cFun Tryz.prog 140 = some (8,k0cb,s0cb):=by kernel_rfl

def qbsp:IC:=zr [zi 3 (.box (.t 0)),zv 6 zf]
def qb13:IC:=zr [zm 9 2,zm 10 1,zv 11 (zl 5 3),zi 12 (.call (.t 9) [zI 10,zA 11]),zv 13 (.un .not (.t 12))]
def qb1i:IC:=zr [zv 6 zf]
def qbnz:IC:=zr [zv 14 (zd 3 4),zv 15 (zg 1 14),zv 16 (.len false (.t 15)),zv 17 (.mov (zc 0))]
def qb5w:IC:=zr [zv 18 (.bin .lss .no (.t 17) (.t 16))]
def qbyq:IC:=zr [zv 19 (.iad 5 (.t 15) (.t 17)),zv 20 (zl 5 19),zi 8 zaN,zn (.st 5 zN (.t 8) (.t 20))]
def qbi0:IC:=zr [zv 21 (zl 5 8),zm 22 1,zv 23 (.bin .add .no (.t 22) (zc 1)),zm 24 2,zi 25 (zk 141 [zA 21,zI 23,zI 24]),zv 26 (.un .not (.t 25))]
def qbpj:IC:=zr [zv 6 zf]
def qbt0:IC:=zr [zv 27 (.bin .add .no (.t 17) (zc 1)),zm 17 27]
def qblr:IC:=(.seq qb5w (.seq (.cond (.t 18) .skip (.exit 0)) (.seq (.block 1 (.seq qbyq (.seq qbi0 (.cond (.t 26) (.seq qbpj .ret) .skip)))) qbt0)))
def qbg1:IC:=zr [zv 6 (.mov (.c (.bool true)))]
def k0ca:IC:=(.seq qbsp (.seq (.seq qb13 (.cond (.t 13) (.seq qb1i .ret) .skip)) (.seq (.seq qbnz (.block 0 (.loop qblr))) (.seq qbg1 .ret))))
@[go_sem] def s0ca:List (RV×Co):=[(.t 6,.id)]
theorem c0ca:cFun Tryz.prog 141 = some (28,k0ca,s0ca):=by kernel_rfl

def qbtg:IC:=zr [zv 2 zf]
def qbwx:IC:=zr [zm 3 0,zv 4 (.bin .geq .no (.t 3) (.c (.int .u8 97))),zm 5 4,zw 5 true 6 (zo 0),zw 5 true 7 (.bin .leq .no (.t 6) (.c (.int .u8 122))),zv 8 (.pick (.t 5) (.t 7) (.c (.bool false))),zm 9 8,zw 9 false 10 (zo 0),zw 9 false 11 (zq (.t 10) (.c (.int .u8 95))),zv 12 (.pick (.t 9) (.c (.bool true)) (.t 11)),zm 2 12]
def k0cg:IC:=(.seq qbtg (.seq qbwx .ret))
@[go_sem] def s0cg:List (RV×Co):=[(.t 2,.id)]
theorem c0cg:cFun Tryz.prog 142 = some (13,k0cg,s0cg):=by kernel_rfl

def qbmu:IC:=zr [zv 2 zf]
def qbl8:IC:=zr [zm 5 0,zv 6 (.len true (.t 5)),zv 7 (.mov (zc 0))]
def qbuh:IC:=zr [zv 8 (.bin .lss .no (.t 7) (.t 6))]
def qb4x:IC:=zr [zm 9 7,zm 3 9]
def qb2q:IC:=zr [zm 10 0,zm 11 3,zv 12 (.idx (.t 10) (.t 11)),zm 4 12]
def qbs5:IC:=zr [zm 13 4,zi 14 (zk 142 [zI 13]),zv 15 (.un .not (.t 14)),zm 16 15,zw 16 true 17 (zo 4),zj 16 true 18 (zk 145 [zI 17]),zw 16 true 19 (.un .not (.t 18)),zv 20 (.pick (.t 16) (.t 19) (.c (.bool false))),zm 21 20,zw 21 true 22 (zo 4),zw 21 true 23 (.bin .lss .no (.t 22) (.c (.int .u8 48))),zw 21 true 24 (zo 23),zw 24 false 25 (zo 4),zw 24 false 26 (.bin .gtr .no (.t 25) (.c (.int .u8 57))),zw 21 true 27 (.pick (.t 24) (.c (.bool true)) (.t 26)),zv 28 (.pick (.t 21) (.t 27) (.c (.bool false))),zm 29 28,zw 29 true 30 (zo 4),zw 29 true 31 (.bin .neq .no (.t 30) (.c (.int .u8 39))),zv 32 (.pick (.t 29) (.t 31) (.c (.bool false)))]
def qbtp:IC:=zr [zv 2 zf]
def qb5p:IC:=zr [zv 33 (.bin .add .no (.t 7) (zc 1)),zm 7 33]
def qbxn:IC:=(.seq qbuh (.seq (.cond (.t 8) .skip (.exit 0)) (.seq (.block 1 (.seq qb4x (.seq qb2q (.seq qbs5 (.cond (.t 32) (.seq qbtp .ret) .skip))))) qb5p)))
def qbfp:IC:=zr [zv 2 (.mov (.c (.bool true)))]
def k0ci:IC:=(.seq qbmu (.seq (.seq qbl8 (.block 0 (.loop qbxn))) (.seq qbfp .ret)))
@[go_sem] def s0ci:List (RV×Co):=[(.t 2,.id)]
theorem c0ci:cFun Tryz.prog 143 = some (34,k0ci,s0ci):=by kernel_rfl

def qby7:IC:=zr [zv 2 zf]
def qbo6:IC:=zr [zv 3 zf]
def qb27:IC:=zr [zv 6 (.bld [(.str []),(.str []),(.str []),(.str []),(.str []),(.str []),(.str []),(.str []),(.str []),(.str []),(.str [])] [(0,1,(.c (.str [100,97,116,97]))),(1,1,(.c (.str [99,108,97,115,115]))),(2,1,(.c (.str [105,110,115,116,97,110,99,101]))),(3,1,(.c (.str [119,104,101,114,101]))),(4,1,(.c (.str [108,101,116]))),(5,1,(.c (.str [105,110]))),(6,1,(.c (.str [99,97,115,101]))),(7,1,(.c (.str [111,102]))),(8,1,(.c (.str [105,102]))),(9,1,(.c (.str [116,104,101,110]))),(10,1,(.c (.str [101,108,115,101])))]),zv 7 (.mov (zc 0))]
def qbz8:IC:=zr [zv 8 (.bin .lss .no (.t 7) (zc 11))]
def qbyx:IC:=zr [zv 9 (.ida false 1 11 (.t 6) (.t 7)),zm 5 9]
def qbls:IC:=zr [zm 10 5,zm 11 0,zv 12 (.bin .neq .no (.t 10) (.t 11))]
def qb1f:IC:=zr [zv 3 (.mov (.c (.bool true)))]
def qbw2:IC:=zr [zv 13 (.bin .add .no (.t 7) (zc 1)),zm 7 13]
def qbst:IC:=(.seq qbz8 (.seq (.cond (.t 8) .skip (.exit 0)) (.seq (.block 1 (.seq qbyx (.seq (.seq qbls (.cond (.t 12) (.exit 1) .skip)) (.seq qb1f (.exit 0))))) qbw2)))
def qbcp:IC:=zr [zm 14 3,zm 2 14]
def k0cj:IC:=(.seq qby7 (.scope (.seq qbo6 (.seq (.label 0) (.seq (.seq qb27 (.block 0 (.loop qbst))) (.seq qbcp .ret))))))
@[go_sem] def s0cj:List (RV×Co):=[(.t 2,.id)]
theorem c0cj:cFun Tryz.prog 144 = some (15,k0cj,s0cj):=by kernel_rfl

def qb53:IC:=zr [zv 2 zf]
def qbti:IC:=zr [zm 3 0,zv 4 (.bin .geq .no (.t 3) (.c (.int .u8 65))),zm 5 4,zw 5 true 6 (zo 0),zw 5 true 7 (.bin .leq .no (.t 6) (.c (.int .u8 90))),zv 8 (.pick (.t 5) (.t 7) (.c (.bool false))),zm 2 8]
def k0ch:IC:=(.seq qb53 (.seq qbti .ret))
@[go_sem] def s0ch:List (RV×Co):=[(.t 2,.id)]
theorem c0ch:cFun Tryz.prog 145 = some (9,k0ch,s0ch):=by kernel_rfl

def qbz3:IC:=zr [zv 2 (.mov (.c .nils)),zv 3 zf]
def qb4u:IC:=zr [zm 9 0,zi 10 (zk 180 [zI 9,((.c (.str [61,62])),.id)]),zv 11 (.un .not (.t 10))]
def qbog:IC:=zr [zm 12 0,zi 13 (zk 181 [zI 12]),zv 14 (.un .not (.t 13)),zv 2 (.mov (.c .nils)),zm 3 14]
def qbw0:IC:=zr [zv 4 (.mov (.c .nils))]
def qb4o:IC:=zr [zm 15 0,zi 16 (zk 105 [zI 15,((.c (.str [40])),.id)]),zm 5 16]
def qbro:IC:=zr [zm 17 5,zv 18 (.un .not (.t 17)),zm 19 18,zw 19 false 20 (zo 0),zj 19 false 21 (zk 155 [zI 20,((.c (.str [41])),.id)]),zw 19 false 22 (.un .not (.t 21)),zv 23 (.pick (.t 19) (.c (.bool true)) (.t 22)),zm 6 23]
def qb05:IC:=zr [zm 24 6]
def qbkq:IC:=zr [zm 26 0,zi 27 (zk 182 [zI 26]),zm 25 27,zv 28 (zx 25 0),zv 29 (zx 25 1),zi 7 zaN,zn (.st 5 zN (.t 7) (.t 28)),zm 8 29]
def qb0v:IC:=zr [zm 30 8,zv 31 (.un .not (.t 30))]
def qbbp:IC:=zr [zv 2 (.mov (.c .nils)),zv 3 zf]
def qbcc:IC:=zr [zm 32 4,zv 33 (zl 5 7),zv 34 (.bsl 5 [zA 33]),zi 35 (.app 5 zZ 64 (.sl 5) (.t 32) (.t 34)),zm 4 35]
def qbao:IC:=zr [zm 36 5,zm 37 36,zw 37 true 38 (zo 0),zj 37 true 39 (zk 105 [zI 38,((.c (.str [44])),.id)]),zv 40 (.pick (.t 37) (.t 39) (.c (.bool false))),zm 6 40]
def qbvg:IC:=(.seq (.seq qb05 (.cond (.t 24) .skip (.exit 0))) (.block 1 (.seq qbkq (.seq (.seq qb0v (.cond (.t 31) (.seq qbbp .ret) .skip)) (.seq qbcc qbao)))))
def qbc6:IC:=zr [zm 41 5,zm 42 41,zw 42 true 43 (zo 0),zj 42 true 44 (zk 156 [zI 43,((.c (.str [41])),.id)]),zw 42 true 45 (.un .not (.t 44)),zv 46 (.pick (.t 42) (.t 45) (.c (.bool false))),zm 47 46,zw 47 false 48 (zo 0),zj 47 false 49 (zk 156 [zI 48,((.c (.str [61,62])),.id)]),zw 47 false 50 (.un .not (.t 49)),zv 51 (.pick (.t 47) (.c (.bool true)) (.t 50))]
def qbez:IC:=zr [zv 2 (.mov (.c .nils)),zv 3 zf]
def qbaz:IC:=zr [zm 52 4,zm 2 52,zv 3 (.mov (.c (.bool true)))]
def k0ea:IC:=(.seq qbz3 (.seq (.seq qb4u (.cond (.t 11) (.seq qbog .ret) .skip)) (.seq qbw0 (.seq qb4o (.seq (.seq qbro (.block 0 (.loop qbvg))) (.seq (.seq qbc6 (.cond (.t 51) (.seq qbez .ret) .skip)) (.seq qbaz .ret)))))))
@[go_sem] def s0ea:List (RV×Co):=[(.t 2,(.sl 5)),(.t 3,.id)]
theorem c0ea:cFun Tryz.prog 146 = some (53,k0ea,s0ea):=by kernel_rfl

def qbx7:IC:=zr [zi 4 (.box (.t 1)),zi 6 zaN,zv 7 zf]
def qbxj:IC:=zr [zm 8 2,zv 9 (.un .not (.t 8))]
def qb2e:IC:=zr [zv 10 (.bld [(.int .i64 0),(.int .i64 0),(.int .i64 0),(.str []),.nils] []),zn (.st 5 zN (.t 6) (.t 10)),zv 7 zf]
def qbul:IC:=zr [zv 11 (zl 5 4),zn (.st 5 zN (.t 6) (.t 11)),zv 7 (.mov (.c (.bool true)))]
def k0ed:IC:=(.seq qbx7 (.seq (.seq qbxj (.cond (.t 9) (.seq qb2e .ret) .skip)) (.seq qbul .ret)))
@[go_sem] def s0ed:List (RV×Co):=[(.c true 5 6,zN),(.t 7,.id)]
theorem c0ed:cFun Tryz.prog 147 = some (12,k0ed,s0ed):=by kernel_rfl

def qbpl:IC:=zr [zi 2 zaN,zv 3 zf]
def qboa:IC:=zr [zm 8 0,zi 9 (zk 66 [zI 8]),zv 10 (.fld false 1 0 (.t 9)),zv 11 (.bin .neq .no (.t 10) (zc 2))]
def qbok:IC:=zr [zm 12 0,zi 13 (zk 165 [zI 12]),zv 14 (zx 13 0),zv 15 (zx 13 1),zn (.st 5 zN (.t 2) (.t 14)),zm 3 15]
def qb3m:IC:=zr [zm 16 0,zi 17 (zk 154 [zI 16]),zi 4 zaT,zn (.st 4 .id (.t 4) (.t 17))]
def qbxf:IC:=zr [zv 18 (zd 4 1),zv 19 (zg 1 18),zv 20 (zd 4 3),zv 21 (zg 1 20),zv 22 (.bld [(.int .i64 0),(.int .i64 0),(.int .i64 0),(.str []),.nils] [(0,1,(zc 2)),(1,1,(.t 19)),(3,1,(.t 21))]),zi 5 zaN,zn (.st 5 zN (.t 5) (.t 22))]
def qbu2:IC:=zr [zm 23 0,zi 24 (zk 183 [zI 23])]
def qbze:IC:=zr [zm 26 0,zi 27 (zk 165 [zI 26]),zm 25 27,zv 28 (zx 25 0),zv 29 (zx 25 1),zi 6 zaN,zn (.st 5 zN (.t 6) (.t 28)),zm 7 29]
def qbt9:IC:=zr [zm 30 7,zv 31 (.un .not (.t 30))]
def qb1a:IC:=zr [zv 32 (.bld [(.int .i64 0),(.int .i64 0),(.int .i64 0),(.str []),.nils] []),zn (.st 5 zN (.t 2) (.t 32)),zv 3 zf]
def qbbs:IC:=zr [zv 33 (zd 5 4),zv 34 (zg 1 33),zv 35 (zl 5 6),zv 36 (.bsl 5 [zA 35]),zi 37 (.app 5 zZ 64 (.sl 5) (.t 34) (.t 36)),zv 38 (zd 5 4),zn (.st 1 (.sl 5) (.t 38) (.t 37))]
def qbyr:IC:=(.seq (.seq qbu2 (.cond (.t 24) .skip (.exit 0))) (.block 1 (.seq qbze (.seq (.seq qbt9 (.cond (.t 31) (.seq qb1a .ret) .skip)) qbbs))))
def qbd8:IC:=zr [zv 39 (zl 5 5),zn (.st 5 zN (.t 2) (.t 39)),zv 3 (.mov (.c (.bool true)))]
def k0eg:IC:=(.seq qbpl (.seq (.seq qboa (.cond (.t 11) (.seq qbok .ret) .skip)) (.seq qb3m (.seq qbxf (.seq (.block 0 (.loop qbyr)) (.seq qbd8 .ret))))))
@[go_sem] def s0eg:List (RV×Co):=[(.c true 5 2,zN),(.t 3,.id)]
theorem c0eg:cFun Tryz.prog 148 = some (40,k0eg,s0eg):=by kernel_rfl

def qb4e:IC:=zr [zv 6 (zg 1 1),zi 7 (zk 150 [zI 6]),zm 3 7]
def qbkd:IC:=zr [zm 8 3,zv 9 (zg 1 1),zv 10 (.len true (.t 9)),zv 11 (.bin .lss .no (.t 8) (.t 10))]
def qbsd:IC:=zr [zv 13 (zg 1 1),zm 14 3,zv 15 (.sls (.t 13) (some (.t 14)) none),zi 16 (zk 151 [zI 15]),zm 12 16,zv 17 (zx 12 0),zv 18 (zx 12 1),zi 4 zaT,zn (.st 4 .id (.t 4) (.t 17)),zm 5 18]
def qbo3:IC:=zr [zm 19 3,zv 20 (zd 4 1),zn (.st 1 .id (.t 20) (.t 19))]
def qbn8:IC:=zr [zm 21 0,zv 22 (zl 4 4),zm 23 5,zi 24 (.call (.t 21) [zI 22,zI 23]),zv 25 (.un .not (.t 24))]
def qb07:IC:=zr [zm 26 3,zv 27 (zd 4 3),zv 28 (zg 1 27),zv 29 (.len true (.t 28)),zv 30 (.bin .add .no (.t 26) (.t 29)),zm 3 30]
def qbt4:IC:=zr [zm 31 3,zv 32 (zg 1 1),zm 33 3,zv 34 (.sls (.t 32) (some (.t 33)) none),zi 35 (zk 150 [zI 34]),zv 36 (.bin .add .no (.t 31) (.t 35)),zm 3 36]
def qbkm:IC:=(.seq (.seq qbkd (.cond (.t 11) .skip (.exit 0))) (.block 1 (.seq qbsd (.seq qbo3 (.seq (.seq qbn8 (.cond (.t 25) .ret .skip)) (.seq qb07 qbt4))))))
def k0cs:IC:=(.seq qb4e (.block 0 (.loop qbkm)))
@[go_sem] def s0cs:List (RV×Co):=[]
theorem c0cs:cFun Tryz.prog 149 = some (37,k0cs,s0cs):=by kernel_rfl

def qbqh:IC:=zr [zv 2 (.mov (zc 0))]
def qb08:IC:=zr [zv 3 (.mov (zc 0))]
def qb31:IC:=zr [zm 5 0,zm 6 3,zv 7 (.sls (.t 5) (some (.t 6)) none),zi 8 (zk 184 [zI 7,((.c (.fn 185 [] [])),.id)]),zm 4 8]
def qbv6:IC:=zr [zm 9 0,zm 10 3,zm 11 4,zv 12 (.bin .add .no (.t 10) (.t 11)),zv 13 (.sls (.t 9) (some (.t 12)) none),zi 14 (zk 186 [zI 13,((.c (.str [45,45])),.id)])]
def qbkr:IC:=zr [zm 15 4,zm 16 0,zm 17 3,zm 18 4,zv 19 (.bin .add .no (.t 17) (.t 18)),zv 20 (.sls (.t 16) (some (.t 19)) none),zi 21 (zk 184 [zI 20,((.c (.fn 187 [] [])),.id)]),zv 22 (.bin .add .no (.t 15) (.t 21)),zm 4 22]
def qbxc:IC:=zr [zm 23 4,zv 24 (zq (.t 23) (zc 0))]
def qbn1:IC:=zr [zm 25 3,zm 2 25]
def qbw5:IC:=zr [zm 26 3,zm 27 4,zv 28 (.bin .add .no (.t 26) (.t 27)),zm 3 28]
def qbud:IC:=(.block 1 (.seq qb31 (.seq (.seq qbv6 (.cond (.t 14) qbkr .skip)) (.seq (.seq qbxc (.cond (.t 24) (.seq qbn1 .ret) .skip)) qbw5))))
def k0dd:IC:=(.seq qbqh (.seq qb08 (.block 0 (.loop qbud))))
@[go_sem] def s0dd:List (RV×Co):=[(.t 2,.id)]
theorem c0dd:cFun Tryz.prog 150 = some (29,k0dd,s0dd):=by kernel_rfl

def qbri:IC:=zr [zi 2 zaT,zv 3 (.mov (zc 0))]
def qbxg:IC:=zr [zm 9 0,zv 10 (.idx (.t 9) (zc 0)),zm 4 10]
def qblo:IC:=zr [zm 12 4,zi 13 (zk 188 [zI 12]),zm 11 13]
def qbxx:IC:=zr [zm 14 0,zm 15 0,zi 16 (zk 184 [zI 15,((.c (.fn 188 [] [])),.id)]),zv 17 (.sls (.t 14) none (some (.t 16))),zm 5 17]
def qb0h:IC:=zr [zm 19 5,zi 20 (zk 189 [zI 19]),zm 18 20,zv 21 (zx 18 0),zv 22 (zx 18 1),zm 6 21,zm 7 22]
def qb6j:IC:=zr [zm 23 6,zm 24 5,zv 25 (.bld [(.int .i64 0),(.int .i64 0),(.int .i64 0),(.str [])] [(0,1,(zc 3)),(2,1,(.t 23)),(3,1,(.t 24))]),zm 26 7,zn (.st 4 .id (.t 2) (.t 25)),zm 3 26]
def qbi2:IC:=zr [zm 28 4,zi 29 (zk 190 [zI 28]),zm 30 29,zw 30 true 31 (zo 4),zw 30 true 32 (.bin .neq .no (.t 31) (.c (.int .u8 39))),zv 33 (.pick (.t 30) (.t 32) (.c (.bool false))),zm 27 33]
def qbxe:IC:=zr [zm 34 0,zm 35 0,zi 36 (zk 184 [zI 35,((.c (.fn 190 [] [])),.id)]),zv 37 (.sls (.t 34) none (some (.t 36))),zi 38 (zk 191 [zI 37]),zn (.st 4 .id (.t 2) (.t 38)),zv 3 (.mov (zc 0))]
def qbu7:IC:=zr [zm 39 0,zi 40 (zk 192 [zI 39]),zm 8 40]
def qbsk:IC:=zr [zm 41 8,zv 42 (zq (.t 41) (zc 0))]
def qbbn:IC:=zr [zv 43 (.bld [(.int .i64 0),(.int .i64 0),(.int .i64 0),(.str [])] []),zn (.st 4 .id (.t 2) (.t 43)),zv 3 (.mov (zc 3))]
def qbbr:IC:=zr [zm 44 0,zm 45 8,zv 46 (.sls (.t 44) none (some (.t 45))),zv 47 (.bld [(.int .i64 0),(.int .i64 0),(.int .i64 0),(.str [])] [(0,1,(zc 5)),(3,1,(.t 46))]),zn (.st 4 .id (.t 2) (.t 47)),zv 3 (.mov (zc 0))]
def k0cv:IC:=(.seq qbri (.seq (.seq qbxg (.block 0 (.seq qblo (.cond (.t 11) (.seq qbxx (.seq qb0h (.seq qb6j .ret))) (.seq qbi2 (.cond (.t 27) (.seq qbxe .ret) .skip)))))) (.seq qbu7 (.seq (.seq qbsk (.cond (.t 42) (.seq qbbn .ret) .skip)) (.seq qbbr .ret)))))
@[go_sem] def s0cv:List (RV×Co):=[(.c true 4 2,.id),(.t 3,.id)]
theorem c0cv:cFun Tryz.prog 151 = some (48,k0cv,s0cv):=by kernel_rfl

def qbob:IC:=zr [zv 4 zf]
def qbsg:IC:=zr [zm 5 0,zi 6 (zk 109 [zI 5]),zv 7 (.un .not (.t 6))]
def qbyt:IC:=zr [zm 8 1,zv 9 (zq (.t 8) (zc 0))]
def qbrr:IC:=zr [zv 1 (.mov (zc 1))]
def qb2x:IC:=zr [zm 10 0,zm 11 0,zi 12 (zk 66 [zI 11]),zv 13 (.fld false 1 1 (.t 12)),zv 14 (.nck (.t 10)),zv 15 (zd 14 8),zn (.st 1 .id (.t 15) (.t 13))]
def qbkk:IC:=zr [zm 16 0,zm 17 1,zv 18 (.nck (.t 16)),zv 19 (zd 18 7),zn (.st 1 .id (.t 19) (.t 17))]
def qbk4:IC:=zr [zv 4 zf]
def k0eo:IC:=(.seq qbob (.seq (.seq qbsg (.cond (.t 7) (.seq (.seq qbyt (.cond (.t 9) qbrr .skip)) (.seq qb2x qbkk)) .skip)) (.seq qbk4 .ret)))
@[go_sem] def s0eo:List (RV×Co):=[(.t 4,.id)]
theorem c0eo:cFun Tryz.prog 152 = some (20,k0eo,s0eo):=by kernel_rfl

def qb1h:IC:=zr [zi 2 zaN,zv 3 zf]
def qbrd:IC:=zr [zm 6 0,zi 7 (zk 66 [zI 6]),zi 4 zaT,zn (.st 4 .id (.t 4) (.t 7))]
def qb5g:IC:=zr [zv 8 (zd 4 1),zv 9 (zg 1 8),zv 10 (zd 4 3),zv 11 (zg 1 10),zv 12 (.bld [(.int .i64 0),(.int .i64 0),(.int .i64 0),(.str []),.nils] [(1,1,(.t 9)),(3,1,(.t 11))]),zi 5 zaN,zn (.st 5 zN (.t 5) (.t 12))]
def qbzo:IC:=zr [zv 15 (zd 4 0),zv 16 (zg 1 15),zv 17 (zq (.t 16) (zc 1)),zm 14 17]
def qb5i:IC:=zr [zv 18 (zd 5 0),zn (.st 1 .id (.t 18) (zc 11))]
def qbm6:IC:=zr [zv 20 (zd 4 0),zv 21 (zg 1 20),zv 22 (zq (.t 21) (zc 2)),zm 19 22]
def qb5c:IC:=zr [zv 23 (zd 5 0),zn (.st 1 .id (.t 23) (zc 14))]
def qbrt:IC:=zr [zv 25 (zd 4 0),zv 26 (zg 1 25),zv 27 (zq (.t 26) (zc 3)),zm 24 27]
def qbnb:IC:=.drw [zp (zv 28 (zd 4 2)),zp (zv 29 (zg 1 28)),zp (zv 30 (zd 5 0)),(zn (.st 1 .id (.t 30) (zc 13)),[1]),zp (zv 31 (zd 5 2)),(zn (.st 1 .id (.t 31) (.t 29)),[]),zp (zv 32 (zd 5 3)),(zn (.st 1 .id (.t 32) (.c (.str []))),[])]
def qb52:IC:=zr [zm 34 0,zi 35 (zk 155 [zI 34,((.c (.str [95])),.id)]),zm 33 35]
def qbfg:IC:=zr [zv 36 (zd 5 0),zn (.st 1 .id (.t 36) (zc 12)),zv 37 (zd 5 3),zn (.st 1 .id (.t 37) (.c (.str [])))]
def qbej:IC:=zr [zv 13 (.bld [(.int .i64 0),(.int .i64 0),(.int .i64 0),(.str []),.nils] []),zn (.st 5 zN (.t 2) (.t 13)),zv 3 zf]
def qbbi:IC:=zr [zv 38 (zl 5 5),zn (.st 5 zN (.t 2) (.t 38)),zv 3 (.mov (.c (.bool true)))]
def k0ds:IC:=(.seq qb1h (.seq qbrd (.seq qb5g (.seq (.block 0 (.seq qbzo (.cond (.t 14) qb5i (.seq qbm6 (.cond (.t 19) qb5c (.seq qbrt (.cond (.t 24) qbnb (.seq qb52 (.cond (.t 33) qbfg (.seq qbej .ret)))))))))) (.seq qbbi .ret)))))
@[go_sem] def s0ds:List (RV×Co):=[(.c true 5 2,zN),(.t 3,.id)]
theorem c0ds:cFun Tryz.prog 153 = some (39,k0ds,s0ds):=by kernel_rfl

def qbwq:IC:=zr [zi 2 zaT]
def qbwd:IC:=zr [zm 4 0,zi 5 (zk 66 [zI 4]),zi 3 zaT,zn (.st 4 .id (.t 3) (.t 5))]
def qbsn:IC:=.drw [zp (zm 6 0),(zi 7 (zk 109 [zI 6]),[]),zp (zv 8 (.un .not (.t 7))),zp (zm 9 8),zp (zw 9 true 10 (zo 0)),zp (zw 9 true 11 (.nck (.t 10))),zp (zw 9 true 12 (zd 11 5)),zp (zw 9 true 13 (zg 1 12)),zp (zw 9 true 14 (zo 0)),zp (zw 9 true 15 (.nck (.t 14))),zp (zw 9 true 16 (zd 15 0)),zp (zw 9 true 17 (zg 1 16)),zp (zw 9 true 18 (.len false (.t 17))),zp (zw 9 true 19 (.bin .lss .no (.t 13) (.t 18))),zp (zv 20 (.pick (.t 9) (.t 19) (.c (.bool false))))]
def qbz5:IC:=zr [zm 21 0,zv 22 (.nck (.t 21)),zv 23 (zd 22 5),zv 24 (zg 1 23),zv 25 (.bin .add .no (.t 24) (zc 1)),zv 26 (.nck (.t 21)),zv 27 (zd 26 5),zn (.st 1 .id (.t 27) (.t 25))]
def qbjq:IC:=zr [zv 28 (zl 4 3),zn (.st 4 .id (.t 2) (.t 28))]
def k0em:IC:=(.seq qbwq (.seq qbwd (.seq (.seq qbsn (.cond (.t 20) qbz5 .skip)) (.seq qbjq .ret))))
@[go_sem] def s0em:List (RV×Co):=[(.c true 4 2,.id)]
theorem c0em:cFun Tryz.prog 154 = some (29,k0em,s0em):=by kernel_rfl

def qbmj:IC:=zr [zv 4 zf]
def qb5q:IC:=zr [zm 5 0,zi 6 (zk 109 [zI 5]),zv 7 (.un .not (.t 6)),zm 8 7,zw 8 true 9 (zo 0),zj 8 true 10 (zk 66 [zI 9]),zw 8 true 11 (zo 1),zw 8 true 12 (.bsl 1 [zI 11]),zj 8 true 13 (zk 193 [zI 10,((.t 12),(.sl 1))]),zv 14 (.pick (.t 8) (.t 13) (.c (.bool false))),zm 4 14]
def k0en:IC:=(.seq qbmj (.seq qb5q .ret))
@[go_sem] def s0en:List (RV×Co):=[(.t 4,.id)]
theorem c0en:cFun Tryz.prog 155 = some (15,k0en,s0en):=by kernel_rfl

def qbpw:IC:=zr [zv 4 zf]
def qblf:IC:=zr [zm 5 0,zm 6 1,zi 7 (zk 105 [zI 5,zI 6]),zm 8 7,zw 8 false 9 (zo 0),zj 8 false 10 (zk 152 [zI 9,((zc 5),.id)]),zv 11 (.pick (.t 8) (.c (.bool true)) (.t 10)),zm 4 11]
def k0eq:IC:=(.seq qbpw (.seq qblf .ret))
@[go_sem] def s0eq:List (RV×Co):=[(.t 4,.id)]
theorem c0eq:cFun Tryz.prog 156 = some (12,k0eq,s0eq):=by kernel_rfl

def qb2a:IC:=zr [zi 1 (.box (.t 0)),zv 2 zf]
def qbnr:IC:=zr [zv 4 (zd 1 4),zv 5 (zg 1 4),zv 6 (.len false (.t 5)),zv 7 (.bin .sub .no (.t 6) (zc 1)),zm 3 7]
def qbnf:IC:=zr [zv 8 (zd 1 0),zv 9 (zg 1 8),zv 10 (zq (.t 9) (zc 4)),zm 11 10,zw 11 true 12 (zl 5 1),zj 11 true 13 (zk 67 [zA 12]),zv 14 (.pick (.t 11) (.t 13) (.c (.bool false))),zm 15 14,zw 15 true 16 (zo 3),zw 15 true 17 (.bin .geq .no (.t 16) (zc 0)),zv 18 (.pick (.t 15) (.t 17) (.c (.bool false))),zm 19 18,zw 19 true 20 (zd 1 4),zw 19 true 21 (zg 1 20),zw 19 true 22 (zo 3),zw 19 true 23 (.slv 5 (.t 21) none (some (.t 22)) none),zj 19 true 24 (zk 68 [((.t 23),(.sl 5)),((.c (.fn 112 [] [])),.id)]),zv 25 (.pick (.t 19) (.t 24) (.c (.bool false))),zm 26 25,zw 26 true 27 (zd 1 4),zw 26 true 28 (zg 1 27),zw 26 true 29 (zo 3),zw 26 true 30 (.iad 5 (.t 28) (.t 29)),zw 26 true 31 (zl 5 30),zj 26 true 32 (zk 48 [zA 31]),zv 33 (.pick (.t 26) (.t 32) (.c (.bool false))),zm 2 33]
def k0bt:IC:=(.seq qb2a (.seq qbnr (.seq qbnf .ret)))
@[go_sem] def s0bt:List (RV×Co):=[(.t 2,.id)]
theorem c0bt:cFun Tryz.prog 157 = some (34,k0bt,s0bt):=by kernel_rfl

def qb1d:IC:=zr [zi 4 zaN,zv 5 zf]
def qb0x:IC:=zr [zm 9 0,zi 10 (zk 66 [zI 9]),zv 11 (.fld false 1 0 (.t 10)),zv 12 (.bin .neq .no (.t 11) (zc 1))]
def qbp1:IC:=zr [zm 13 0,zm 14 1,zi 15 (zk 156 [zI 13,zI 14]),zv 16 (.un .not (.t 15))]
def qbye:IC:=zr [zv 17 (.bld [(.int .i64 0),(.int .i64 0),(.int .i64 0),(.str []),.nils] []),zn (.st 5 zN (.t 4) (.t 17)),zv 5 zf]
def qbj7:IC:=zr [zm 18 0,zi 19 (zk 58 [zI 18]),zv 20 (zx 19 0),zv 21 (zx 19 1),zn (.st 5 zN (.t 4) (.t 20)),zm 5 21]
def qbl5:IC:=zr [zm 22 0,zi 23 (zk 154 [zI 22]),zi 6 zaT,zn (.st 4 .id (.t 6) (.t 23))]
def qbtu:IC:=zr [zm 25 0,zm 26 1,zi 27 (zk 158 [zI 25,zI 26]),zm 24 27,zv 28 (zx 24 0),zv 29 (zx 24 1),zi 7 zaN,zn (.st 5 zN (.t 7) (.t 28)),zm 8 29]
def qbp9:IC:=zr [zv 30 (zd 6 1),zv 31 (zg 1 30),zv 32 (zd 6 3),zv 33 (zg 1 32),zv 34 (zl 5 7),zv 35 (.bsl 5 [zA 34]),zv 36 (.bld [(.int .i64 0),(.int .i64 0),(.int .i64 0),(.str []),.nils] [(0,1,(zc 25)),(1,1,(.t 31)),(3,1,(.t 33)),(4,1,(.t 35))]),zm 37 8,zn (.st 5 zN (.t 4) (.t 36)),zm 5 37]
def k0dn:IC:=(.seq qb1d (.seq (.seq qb0x (.cond (.t 12) (.seq (.seq qbp1 (.cond (.t 16) (.seq qbye .ret) .skip)) (.seq qbj7 .ret)) .skip)) (.seq qbl5 (.seq qbtu (.seq qbp9 .ret)))))
@[go_sem] def s0dn:List (RV×Co):=[(.c true 5 4,zN),(.t 5,.id)]
theorem c0dn:cFun Tryz.prog 158 = some (38,k0dn,s0dn):=by kernel_rfl

def qbk5:IC:=zr [zi 2 (.box (.t 0)),zi 3 (.box (.t 1)),zi 4 zaN,zv 5 zf]
def qbjr:IC:=zr [zv 10 (zg 1 2),zv 11 (.mfn 195 [] [(.t 2)]),zi 12 (zk 194 [zI 10,zI 11]),zm 9 12,zv 13 (zx 9 0),zv 14 (zx 9 1),zm 6 13,zm 7 14]
def qbq2:IC:=zr [zm 15 7,zv 16 (.un .not (.t 15)),zm 17 16,zw 17 false 18 (zg 1 2),zj 17 false 19 (zk 156 [zI 18,((.c (.str [105,110])),.id)]),zw 17 false 20 (.un .not (.t 19)),zv 21 (.pick (.t 17) (.c (.bool true)) (.t 20))]
def qb1w:IC:=zr [zv 22 (zl 5 3),zn (.st 5 zN (.t 4) (.t 22)),zv 5 zf]
def qblt:IC:=zr [zv 24 (zg 1 2),zi 25 (zk 58 [zI 24]),zm 23 25,zv 26 (zx 23 0),zv 27 (zx 23 1),zi 8 zaN,zn (.st 5 zN (.t 8) (.t 26)),zm 7 27]
def qb4s:IC:=zr [zm 28 6,zv 29 (zl 5 8),zv 30 (.bsl 5 [zA 29]),zi 31 (.app 5 zZ 64 (.sl 5) (.t 28) (.t 30)),zv 32 (zd 3 0),zn (.st 1 .id (.t 32) (zc 26)),zv 33 (zd 3 4),zn (.st 1 (.sl 5) (.t 33) (.t 31))]
def qb4k:IC:=zr [zv 34 (zl 5 3),zm 35 7,zn (.st 5 zN (.t 4) (.t 34)),zm 5 35]
def k0dg:IC:=(.seq qbk5 (.seq qbjr (.seq (.seq qbq2 (.cond (.t 21) (.seq qb1w .ret) .skip)) (.seq qblt (.seq qb4s (.seq qb4k .ret))))))
@[go_sem] def s0dg:List (RV×Co):=[(.c true 5 4,zN),(.t 5,.id)]
theorem c0dg:cFun Tryz.prog 159 = some (36,k0dg,s0dg):=by kernel_rfl

def qb2j:IC:=zr [zi 2 (.box (.t 0)),zi 3 (.box (.t 1)),zi 4 zaN,zv 5 zf]
def qbqt:IC:=zr [zv 10 (zg 1 2),zi 11 (zk 58 [zI 10]),zm 9 11,zv 12 (zx 9 0),zv 13 (zx 9 1),zi 6 zaN,zn (.st 5 zN (.t 6) (.t 12)),zm 7 13]
def qbue:IC:=zr [zm 14 7,zv 15 (.un .not (.t 14)),zm 16 15,zw 16 false 17 (zg 1 2),zj 16 false 18 (zk 156 [zI 17,((.c (.str [111,102])),.id)]),zw 16 false 19 (.un .not (.t 18)),zv 20 (.pick (.t 16) (.c (.bool true)) (.t 19))]
def qb0t:IC:=zr [zv 21 (zl 5 3),zn (.st 5 zN (.t 4) (.t 21)),zv 5 zf]
def qbpr:IC:=zr [zv 23 (zg 1 2),zv 24 (.mfn 196 [] [(.t 2)]),zi 25 (zk 194 [zI 23,zI 24]),zm 22 25,zv 26 (zx 22 0),zv 27 (zx 22 1),zm 8 26,zm 7 27]
def qb0c:IC:=zr [zv 28 (zl 5 6),zv 29 (.bsl 5 [zA 28]),zm 30 8,zi 31 (.app 5 zZ 64 (.sl 5) (.t 29) (.t 30)),zv 32 (zd 3 0),zn (.st 1 .id (.t 32) (zc 27)),zv 33 (zd 3 4),zn (.st 1 (.sl 5) (.t 33) (.t 31))]
def qbm1:IC:=zr [zv 34 (zl 5 3),zm 35 7,zn (.st 5 zN (.t 4) (.t 34)),zm 5 35]
def k0dh:IC:=(.seq qb2j (.seq qbqt (.seq (.seq qbue (.cond (.t 20) (.seq qb0t .ret) .skip)) (.seq qbpr (.seq qb0c (.seq qbm1 .ret))))))
@[go_sem] def s0dh:List (RV×Co):=[(.c true 5 4,zN),(.t 5,.id)]
theorem c0dh:cFun Tryz.prog 160 = some (36,k0dh,s0dh):=by kernel_rfl

def qbjn:IC:=zr [zi 3 (.box (.t 1)),zi 4 zaN,zv 5 zf]
def qbx0:IC:=zr [zv 10 (zd 3 0),zn (.st 1 .id (.t 10) (zc 28))]
def qbr1:IC:=zr [zv 11 (.bld [(.str []),(.str []),(.str [])] [(0,1,(.c (.str []))),(1,1,(.c (.str [116,104,101,110]))),(2,1,(.c (.str [101,108,115,101])))]),zv 12 (.mov (zc 0))]
def qb2k:IC:=zr [zv 13 (.bin .lss .no (.t 12) (zc 3))]
def qbw4:IC:=zr [zv 14 (.ida false 1 3 (.t 11) (.t 12)),zm 7 14]
def qbz0:IC:=zr [zm 15 7,zv 16 (.bin .neq .no (.t 15) (.c (.str []))),zm 17 16,zw 17 true 18 (zo 0),zw 17 true 19 (zo 7),zj 17 true 20 (zk 156 [zI 18,zI 19]),zw 17 true 21 (.un .not (.t 20)),zv 22 (.pick (.t 17) (.t 21) (.c (.bool false)))]
def qbta:IC:=zr [zv 23 (zl 5 3),zn (.st 5 zN (.t 4) (.t 23)),zv 5 zf]
def qbrx:IC:=zr [zm 25 0,zi 26 (zk 58 [zI 25]),zm 24 26,zv 27 (zx 24 0),zv 28 (zx 24 1),zi 8 zaN,zn (.st 5 zN (.t 8) (.t 27)),zm 9 28]
def qby5:IC:=zr [zm 29 9,zv 30 (.un .not (.t 29))]
def qbc7:IC:=zr [zv 31 (zl 5 3),zn (.st 5 zN (.t 4) (.t 31)),zv 5 zf]
def qbft:IC:=zr [zv 32 (zd 3 4),zv 33 (zg 1 32),zv 34 (zl 5 8),zv 35 (.bsl 5 [zA 34]),zi 36 (.app 5 zZ 64 (.sl 5) (.t 33) (.t 35)),zv 37 (zd 3 4),zn (.st 1 (.sl 5) (.t 37) (.t 36))]
def qbbj:IC:=zr [zv 38 (.bin .add .no (.t 12) (zc 1)),zm 12 38]
def qbmt:IC:=(.seq qb2k (.seq (.cond (.t 13) .skip (.exit 0)) (.seq (.block 1 (.seq qbw4 (.seq (.seq qbz0 (.cond (.t 22) (.seq qbta .ret) .skip)) (.seq qbrx (.seq (.seq qby5 (.cond (.t 30) (.seq qbc7 .ret) .skip)) qbft))))) qbbj)))
def qbdj:IC:=zr [zv 39 (zl 5 3),zn (.st 5 zN (.t 4) (.t 39)),zv 5 (.mov (.c (.bool true)))]
def k0di:IC:=(.seq qbjn (.seq qbx0 (.seq (.seq qbr1 (.block 0 (.loop qbmt))) (.seq qbdj .ret))))
@[go_sem] def s0di:List (RV×Co):=[(.c true 5 4,zN),(.t 5,.id)]
theorem c0di:cFun Tryz.prog 161 = some (40,k0di,s0di):=by kernel_rfl

def qbvb:IC:=zr [zi 2 zaN,zv 3 zf]
def qbm0:IC:=zr [zm 10 0,zi 11 (zk 197 [zI 10]),zm 9 11,zv 12 (zx 9 0),zv 13 (zx 9 1),zi 4 zaN,zn (.st 5 zN (.t 4) (.t 12)),zm 5 13]
def qbnx:IC:=zr [zm 14 5]
def qby9:IC:=zr [zm 16 0,zi 17 (zk 198 [zI 16]),zm 15 17,zv 18 (zx 15 0),zv 19 (zx 15 1),zi 6 zaN,zn (.st 5 zN (.t 6) (.t 18)),zm 7 19]
def qbyu:IC:=zr [zm 20 7,zv 21 (.un .not (.t 20)),zm 22 21,zw 22 true 23 (zo 0),zj 22 true 24 (zk 155 [zI 23,((.c (.str [40])),.id)]),zw 22 true 25 (.un .not (.t 24)),zv 26 (.pick (.t 22) (.t 25) (.c (.bool false)))]
def qb2u:IC:=zr [zi 8 zaN]
def qb4t:IC:=zr [zm 28 0,zi 29 (zk 197 [zI 28]),zm 27 29,zv 30 (zx 27 0),zv 31 (zx 27 1),zn (.st 5 zN (.t 8) (.t 30)),zm 5 31]
def qb1m:IC:=zr [zv 32 (zd 4 1),zv 33 (zg 1 32),zv 34 (zl 5 4),zv 35 (zl 5 8),zv 36 (.bsl 5 [zA 34,zA 35]),zv 37 (.bld [(.int .i64 0),(.int .i64 0),(.int .i64 0),(.str []),.nils] [(0,1,(zc 24)),(1,1,(.t 33)),(4,1,(.t 36))]),zn (.st 5 zN (.t 4) (.t 37))]
def qb3y:IC:=(.seq (.seq qbnx (.cond (.t 14) .skip (.exit 0))) (.block 1 (.seq (.seq qby9 (.seq qbyu (.cond (.t 26) (.exit 0) .skip))) (.seq qb2u (.seq qb4t qb1m)))))
def qbgj:IC:=zr [zv 38 (zl 5 4),zm 39 5,zn (.st 5 zN (.t 2) (.t 38)),zm 3 39]
def k0dr:IC:=(.seq qbvb (.seq qbm0 (.seq (.block 0 (.loop qb3y)) (.seq qbgj .ret))))
@[go_sem] def s0dr:List (RV×Co):=[(.c true 5 2,zN),(.t 3,.id)]
theorem c0dr:cFun Tryz.prog 162 = some (40,k0dr,s0dr):=by kernel_rfl

def qbks:IC:=zr [zi 4 zaT,zv 5 zf]
def qbu3:IC:=zr [zm 6 0,zi 7 (zk 109 [zI 6]),zm 8 7,zw 8 false 9 (zo 0),zj 8 false 10 (zk 66 [zI 9]),zw 8 false 11 (.fld false 1 0 (.t 10)),zw 8 false 12 (zo 1),zw 8 false 13 (.bin .neq .no (.t 11) (.t 12)),zv 14 (.pick (.t 8) (.c (.bool true)) (.t 13))]
def qboy:IC:=zr [zv 15 (.bld [(.int .i64 0),(.int .i64 0),(.int .i64 0),(.str [])] []),zm 16 0,zi 17 (zk 152 [zI 16,((zc 5),.id)]),zn (.st 4 .id (.t 4) (.t 15)),zm 5 17]
def qbln:IC:=zr [zm 18 0,zi 19 (zk 154 [zI 18]),zn (.st 4 .id (.t 4) (.t 19)),zv 5 (.mov (.c (.bool true)))]
def k0eu:IC:=(.seq qbks (.seq (.seq qbu3 (.cond (.t 14) (.seq qboy .ret) .skip)) (.seq qbln .ret)))
@[go_sem] def s0eu:List (RV×Co):=[(.c true 4 4,.id),(.t 5,.id)]
theorem c0eu:cFun Tryz.prog 163 = some (20,k0eu,s0eu):=by kernel_rfl

def qbwp:IC:=zr [zi 1 zaN,zv 2 zf]
def qboc:IC:=zr [zv 3 (zg 1 0),zi 4 (zk 165 [zI 3]),zv 5 (zx 4 0),zv 6 (zx 4 1),zn (.st 5 zN (.t 1) (.t 5)),zm 2 6]
def k0fn:IC:=(.seq qbwp (.seq qboc .ret))
@[go_sem] def s0fn:List (RV×Co):=[(.c true 5 1,zN),(.t 2,.id)]
theorem c0fn:cFun Tryz.prog 164 = some (7,k0fn,s0fn):=by kernel_rfl

def qbu5:IC:=zr [zi 2 zaN,zv 3 zf]
def qbt1:IC:=zr [zm 7 0,zi 8 (zk 66 [zI 7]),zi 4 zaT,zn (.st 4 .id (.t 4) (.t 8))]
def qbmc:IC:=zr [zv 10 (zd 4 0),zv 11 (zg 1 10),zv 12 (zq (.t 11) (zc 1)),zm 9 12]
def qbzh:IC:=zr [zm 13 0,zi 14 (zk 154 [zI 13])]
def qb4w:IC:=zr [zv 15 (zd 4 1),zv 16 (zg 1 15),zv 17 (zd 4 3),zv 18 (zg 1 17),zv 19 (.bld [(.int .i64 0),(.int .i64 0),(.int .i64 0),(.str []),.nils] [(0,1,(zc 1)),(1,1,(.t 16)),(3,1,(.t 18))]),zn (.st 5 zN (.t 2) (.t 19)),zv 3 (.mov (.c (.bool true)))]
def qbxu:IC:=zr [zv 21 (zd 4 0),zv 22 (zg 1 21),zv 23 (zq (.t 22) (zc 2)),zm 20 23]
def qbmq:IC:=zr [zm 24 0,zi 25 (zk 154 [zI 24])]
def qbxo:IC:=zr [zv 26 (zd 4 1),zv 27 (zg 1 26),zv 28 (zd 4 3),zv 29 (zg 1 28),zv 30 (.bld [(.int .i64 0),(.int .i64 0),(.int .i64 0),(.str []),.nils] [(0,1,(zc 2)),(1,1,(.t 27)),(3,1,(.t 29))]),zn (.st 5 zN (.t 2) (.t 30)),zv 3 (.mov (.c (.bool true)))]
def qbwh:IC:=zr [zm 32 0,zi 33 (zk 155 [zI 32,((.c (.str [40])),.id)]),zv 34 (.un .not (.t 33)),zm 31 34]
def qbj8:IC:=zr [zv 35 (.bld [(.int .i64 0),(.int .i64 0),(.int .i64 0),(.str []),.nils] []),zm 36 0,zi 37 (zk 152 [zI 36,((zc 5),.id)]),zn (.st 5 zN (.t 2) (.t 35)),zm 3 37]
def qbgs:IC:=zr [zm 38 0,zi 39 (zk 95 [zI 38]),zv 40 (.un .not (.t 39))]
def qbfc:IC:=zr [zv 41 (.bld [(.int .i64 0),(.int .i64 0),(.int .i64 0),(.str []),.nils] []),zn (.st 5 zN (.t 2) (.t 41)),zv 3 zf]
def qbcl:IC:=zr [zm 42 0,zi 43 (zk 154 [zI 42])]
def q97:IC:=zr [zm 45 0,zi 46 (zk 93 [zI 45]),zm 44 46,zv 47 (zx 44 0),zv 48 (zx 44 1),zi 5 zaN,zn (.st 5 zN (.t 5) (.t 47)),zm 6 48]
def qbbf:IC:=zr [zm 49 6,zm 50 49,zw 50 true 51 (zo 0),zj 50 true 52 (zk 156 [zI 51,((.c (.str [41])),.id)]),zv 53 (.pick (.t 50) (.t 52) (.c (.bool false))),zm 6 53]
def qbdn:IC:=zr [zm 54 0,zi 55 (zk 98 [zI 54])]
def qbgh:IC:=zr [zm 56 0,zv 57 (zl 5 5),zm 58 6,zi 59 (zk 147 [zI 56,zA 57,zI 58]),zv 60 (zx 59 0),zv 61 (zx 59 1),zn (.st 5 zN (.t 2) (.t 60)),zm 3 61]
def k0ef:IC:=(.seq qbu5 (.seq (.seq qbt1 (.block 0 (.seq qbmc (.cond (.t 9) (.seq qbzh (.seq qb4w .ret)) (.seq qbxu (.cond (.t 20) (.seq qbmq (.seq qbxo .ret)) (.seq qbwh (.cond (.t 31) (.seq qbj8 .ret) .skip)))))))) (.seq (.seq qbgs (.cond (.t 40) (.seq qbfc .ret) .skip)) (.seq qbcl (.seq q97 (.seq qbbf (.seq qbdn (.seq qbgh .ret))))))))
@[go_sem] def s0ef:List (RV×Co):=[(.c true 5 2,zN),(.t 3,.id)]
theorem c0ef:cFun Tryz.prog 165 = some (62,k0ef,s0ef):=by kernel_rfl

def qbkt:IC:=zr [zv 1 zf]
def qbvm:IC:=zr [zv 2 (zg 1 0),zi 3 (zk 66 [zI 2]),zv 4 (.fld false 1 0 (.t 3)),zv 5 (zq (.t 4) (zc 1)),zm 1 5]
def k0fo:IC:=(.seq qbkt (.seq qbvm .ret))
@[go_sem] def s0fo:List (RV×Co):=[(.t 1,.id)]
theorem c0fo:cFun Tryz.prog 166 = some (6,k0fo,s0fo):=by kernel_rfl

def qbwa:IC:=zr [zi 1 zaN,zv 2 zf]
def qbn6:IC:=zr [zv 3 (zg 1 0),zi 4 (zk 168 [zI 3]),zv 5 (zx 4 0),zv 6 (zx 4 1),zn (.st 5 zN (.t 1) (.t 5)),zm 2 6]
def k0fg:IC:=(.seq qbwa (.seq qbn6 .ret))
@[go_sem] def s0fg:List (RV×Co):=[(.c true 5 1,zN),(.t 2,.id)]
theorem c0fg:cFun Tryz.prog 167 = some (7,k0fg,s0fg):=by kernel_rfl

def qbtq:IC:=zr [zi 1 (.box (.t 0)),zi 2 zaN,zv 3 zf]
def qbw9:IC:=zr [zv 8 (zg 1 1),zi 9 (zk 163 [zI 8,((zc 2),.id)]),zm 7 9,zv 10 (zx 7 0),zv 11 (zx 7 1),zi 4 zaT,zn (.st 4 .id (.t 4) (.t 10)),zm 5 11]
def qbq8:IC:=zr [zm 12 5,zv 13 (.un .not (.t 12))]
def qbun:IC:=zr [zv 14 (.bld [(.int .i64 0),(.int .i64 0),(.int .i64 0),(.str []),.nils] []),zn (.st 5 zN (.t 2) (.t 14)),zv 3 zf]
def qb59:IC:=zr [zv 15 (zd 4 1),zv 16 (zg 1 15),zv 17 (zd 4 3),zv 18 (zg 1 17),zv 19 (.bld [(.int .i64 0),(.int .i64 0),(.int .i64 0),(.str []),.nils] [(0,1,(zc 34)),(1,1,(.t 16)),(3,1,(.t 18))]),zi 6 zaN,zn (.st 5 zN (.t 6) (.t 19))]
def qb1y:IC:=zr [zv 21 (.mfn 199 [] [(.t 1)]),zv 22 (.mfn 200 [] [(.t 1)]),zi 23 (zk 62 [((.c .nils),(.sl 5)),zI 21,zI 22]),zm 20 23,zv 24 (zx 20 0),zv 25 (zx 20 1),zv 26 (zd 6 4),zn (.st 1 (.sl 5) (.t 26) (.t 24)),zm 5 25]
def qbs4:IC:=zr [zv 27 (zl 5 6),zm 28 5,zn (.st 5 zN (.t 2) (.t 27)),zm 3 28]
def k0fp:IC:=(.seq qbtq (.seq qbw9 (.seq (.seq qbq8 (.cond (.t 13) (.seq qbun .ret) .skip)) (.seq qb59 (.seq qb1y (.seq qbs4 .ret))))))
@[go_sem] def s0fp:List (RV×Co):=[(.c true 5 2,zN),(.t 3,.id)]
theorem c0fp:cFun Tryz.prog 168 = some (29,k0fp,s0fp):=by kernel_rfl

def qb5y:IC:=zr [zi 3 (.box (.t 0)),zi 5 (.box (.t 2)),zv 6 (.mov (.c .nils)),zv 7 zf]
def qbo9:IC:=zr [zv 10 (zg 1 3),zi 11 (zk 156 [zI 10,((.c (.str [119,104,101,114,101])),.id)]),zv 12 (.un .not (.t 11)),zm 13 12,zw 13 false 14 (zg 1 3),zj 13 false 15 (zk 156 [zI 14,((.c (.str [123])),.id)]),zw 13 false 16 (.un .not (.t 15)),zv 17 (.pick (.t 13) (.c (.bool true)) (.t 16))]
def qbw8:IC:=zr [zm 18 1,zm 6 18,zv 7 zf]
def qbsq:IC:=zr [zv 19 (zg 1 3),zi 20 (zk 61 [zI 19,((.c (.str [59])),.id)]),zi 8 (.alo [.nilf]),zn (.st 1 .id (.t 8) (.t 20))]
def qbsf:IC:=zr [zm 22 1,zv 23 (.mfn 202 [] [(.t 3),(.t 5)]),zv 24 (.mfn 204 [] [(.t 3),(.t 8)]),zi 25 (zk 62 [((.t 22),(.sl 5)),zI 23,zI 24]),zm 21 25,zv 26 (zx 21 0),zv 27 (zx 21 1),zm 1 26,zm 9 27]
def q9n:IC:=zr [zm 28 1,zm 29 9,zm 30 29,zw 30 true 31 (zg 1 3),zj 30 true 32 (zk 156 [zI 31,((.c (.str [125])),.id)]),zv 33 (.pick (.t 30) (.t 32) (.c (.bool false))),zm 6 28,zm 7 33]
def k0ff:IC:=(.seq qb5y (.seq (.seq qbo9 (.cond (.t 17) (.seq qbw8 .ret) .skip)) (.seq qbsq (.seq qbsf (.seq q9n .ret)))))
@[go_sem] def s0ff:List (RV×Co):=[(.t 6,(.sl 5)),(.t 7,.id)]
theorem c0ff:cFun Tryz.prog 169 = some (34,k0ff,s0ff):=by kernel_rfl

def qb7u:IC:=zr [zi 1 (.box (.t 0)),zv 2 (.mov (.c (.str [])))]
def qcaw:IC:=zr [zv 3 (zl 5 1),zv 4 (.bld [(.int .i64 0),(.int .i64 0),(.int .i64 0),(.str []),.nils] [(0,5,(.t 3))]),zv 5 (.mki 40 (.t 4) zN),zi 6 (zk 46 [zI 5]),zm 2 6]
def k0t:IC:=(.seq qb7u (.seq qcaw .ret))
@[go_sem] def s0t:List (RV×Co):=[(.t 2,.id)]
theorem c0t:cFun Tryz.prog 179 = some (7,k0t,s0t):=by kernel_rfl

def qbtz:IC:=zr [zv 4 zf]
def qbv0:IC:=zr [zm 8 0,zi 9 (zk 109 [zI 8])]
def qbka:IC:=zr [zv 4 zf]
def qb1k:IC:=zr [zv 5 (.mov (zc 0))]
def qb2p:IC:=.drw [zp (zm 10 0),zp (zv 11 (.nck (.t 10))),zp (zv 12 (zd 11 0)),zp (zv 13 (zg 1 12)),zp (zm 14 0),zp (zv 15 (.nck (.t 14))),zp (zv 16 (zd 15 5)),zp (zv 17 (zg 1 16)),zp (zv 18 (.slv 4 (.t 13) (some (.t 17)) none none)),zp (zv 19 (.len false (.t 18))),zp (zv 20 (.mov (zc 0)))]
def qb1e:IC:=zr [zv 21 (.bin .lss .no (.t 20) (.t 19))]
def qbra:IC:=zr [zv 22 (.iad 4 (.t 18) (.t 20)),zv 23 (zl 4 22),zi 7 zaT,zn (.st 4 .id (.t 7) (.t 23))]
def qbn7:IC:=zr [zv 25 (zl 4 7),zv 26 (.bsl 1 [((.c (.str [40])),.id),((.c (.str [123])),.id)]),zi 27 (zk 193 [zI 25,((.t 26),(.sl 1))]),zm 24 27]
def qb5b:IC:=zr [zm 28 5,zv 29 (.bin .add .no (.t 28) (zc 1)),zm 5 29]
def qbgr:IC:=zr [zv 31 (zl 4 7),zv 32 (.bsl 1 [((.c (.str [41])),.id),((.c (.str [125])),.id)]),zi 33 (zk 193 [zI 31,((.t 32),(.sl 1))]),zm 30 33]
def qbfk:IC:=zr [zm 34 5,zv 35 (.bin .sub .no (.t 34) (zc 1)),zm 5 35]
def q91:IC:=zr [zm 36 5,zv 37 (.bin .lss .no (.t 36) (zc 0))]
def q92:IC:=zr [zv 4 zf]
def qbc4:IC:=zr [zm 39 5,zv 40 (.bin .gtr .no (.t 39) (zc 0)),zm 38 40]
def qbfj:IC:=zr [zv 42 (zl 4 7),zv 43 (.bsl 1 [((.c (.str [59])),.id)]),zi 44 (zk 193 [zI 42,((.t 43),(.sl 1))]),zm 41 44]
def q9w:IC:=zr [zv 4 zf]
def qbg8:IC:=zr [zv 46 (zl 4 7),zm 47 1,zv 48 (.bsl 1 [zI 47]),zi 49 (zk 193 [zI 46,((.t 48),(.sl 1))]),zm 45 49]
def qbdf:IC:=zr [zv 4 (.mov (.c (.bool true)))]
def qba8:IC:=zr [zv 50 (.bin .add .no (.t 20) (zc 1)),zm 20 50]
def qby1:IC:=(.seq qb1e (.seq (.cond (.t 21) .skip (.exit 0)) (.seq (.block 1 (.seq qbra (.block 2 (.seq qbn7 (.cond (.t 24) qb5b (.seq qbgr (.cond (.t 30) (.seq qbfk (.seq q91 (.cond (.t 37) (.seq q92 .ret) .skip))) (.seq qbc4 (.cond (.t 38) .skip (.seq qbfj (.cond (.t 41) (.seq q9w .ret) (.seq qbg8 (.cond (.t 45) (.seq qbdf .ret) .skip))))))))))))) qba8)))
def qbgu:IC:=zr [zv 4 zf]
def k0ev:IC:=(.seq qbtz (.seq (.seq qbv0 (.cond (.t 9) (.seq qbka .ret) .skip)) (.seq qb1k (.seq (.seq qb2p (.block 0 (.loop qby1))) (.seq qbgu .ret)))))
@[go_sem] def s0ev:List (RV×Co):=[(.t 4,.id)]
theorem c0ev:cFun Tryz.prog 180 = some (51,k0ev,s0ev):=by kernel_rfl

def qbpa:IC:=zr [zv 2 zf]
def qb0k:IC:=zr [zm 6 0,zi 7 (zk 55 [zI 6]),zm 5 7,zv 8 (zx 5 0),zv 9 (zx 5 1),zm 3 8,zm 4 9]
def qbyo:IC:=zr [zm 10 4,zv 11 (.bin .neq .no (.t 10) (zc 0)),zm 12 11,zw 12 true 13 (zo 4),zw 12 true 14 (.bin .neq .no (.t 13) (zc 5)),zw 12 true 15 (zo 14),zw 15 false 16 (zo 0),zj 15 false 17 (zk 66 [zI 16]),zw 15 false 18 (.fld false 1 0 (.t 17)),zw 15 false 19 (zq (.t 18) (zc 0)),zw 12 true 20 (.pick (.t 15) (.c (.bool true)) (.t 19)),zv 21 (.pick (.t 12) (.t 20) (.c (.bool false))),zm 2 21]
def k0eb:IC:=(.seq qbpa (.seq qb0k (.seq qbyo .ret)))
@[go_sem] def s0eb:List (RV×Co):=[(.t 2,.id)]
theorem c0eb:cFun Tryz.prog 181 = some (22,k0eb,s0eb):=by kernel_rfl

def qb26:IC:=zr [zi 2 zaN,zv 3 zf]
def qbnn:IC:=zr [zm 8 0,zi 9 (zk 163 [zI 8,((zc 2),.id)]),zm 7 9,zv 10 (zx 7 0),zv 11 (zx 7 1),zi 4 zaT,zn (.st 4 .id (.t 4) (.t 10)),zm 5 11]
def qb5d:IC:=zr [zm 12 5,zv 13 (.un .not (.t 12))]
def qbus:IC:=zr [zv 14 (.bld [(.int .i64 0),(.int .i64 0),(.int .i64 0),(.str []),.nils] []),zn (.st 5 zN (.t 2) (.t 14)),zv 3 zf]
def qbjs:IC:=zr [zm 16 0,zi 17 (zk 165 [zI 16]),zm 15 17,zv 18 (zx 15 0),zv 19 (zx 15 1),zi 6 zaN,zn (.st 5 zN (.t 6) (.t 18)),zm 5 19]
def qbwi:IC:=zr [zm 20 0,zv 21 (zd 4 1),zv 22 (zg 1 21),zv 23 (zd 4 3),zv 24 (zg 1 23),zv 25 (zl 5 6),zv 26 (.bsl 5 [zA 25]),zv 27 (.bld [(.int .i64 0),(.int .i64 0),(.int .i64 0),(.str []),.nils] [(0,1,(zc 3)),(1,1,(.t 22)),(3,1,(.t 24)),(4,1,(.t 26))]),zm 28 5,zi 29 (zk 147 [zI 20,zA 27,zI 28]),zv 30 (zx 29 0),zv 31 (zx 29 1),zn (.st 5 zN (.t 2) (.t 30)),zm 3 31]
def k0ec:IC:=(.seq qb26 (.seq qbnn (.seq (.seq qb5d (.cond (.t 13) (.seq qbus .ret) .skip)) (.seq qbjs (.seq qbwi .ret)))))
@[go_sem] def s0ec:List (RV×Co):=[(.c true 5 2,zN),(.t 3,.id)]
theorem c0ec:cFun Tryz.prog 182 = some (32,k0ec,s0ec):=by kernel_rfl

def qbqa:IC:=zr [zv 2 zf]
def qbi4:IC:=zr [zm 4 0,zi 5 (zk 66 [zI 4]),zv 6 (.fld false 1 0 (.t 5)),zm 3 6]
def qbkl:IC:=zr [zm 7 3,zv 8 (zq (.t 7) (zc 1)),zm 9 8,zw 9 false 10 (zo 3),zw 9 false 11 (zq (.t 10) (zc 2)),zv 12 (.pick (.t 9) (.c (.bool true)) (.t 11)),zm 13 12,zw 13 false 14 (zo 0),zj 13 false 15 (zk 155 [zI 14,((.c (.str [40])),.id)]),zv 16 (.pick (.t 13) (.c (.bool true)) (.t 15)),zm 2 16]
def k0ee:IC:=(.seq qbqa (.seq qbi4 (.seq qbkl .ret)))
@[go_sem] def s0ee:List (RV×Co):=[(.t 2,.id)]
theorem c0ee:cFun Tryz.prog 183 = some (17,k0ee,s0ee):=by kernel_rfl

def qbwr:IC:=zr [zv 4 (.mov (zc 0))]
def qbpo:IC:=zr [zm 6 0,zv 7 (.len true (.t 6)),zv 8 (.mov (zc 0))]
def qb22:IC:=zr [zv 9 (.bin .lss .no (.t 8) (.t 7))]
def qbm9:IC:=zr [zm 10 8,zm 5 10]
def qbw1:IC:=zr [zm 11 1,zm 12 0,zm 13 5,zv 14 (.idx (.t 12) (.t 13)),zi 15 (.call (.t 11) [zI 14]),zv 16 (.un .not (.t 15))]
def qb1r:IC:=zr [zm 17 5,zm 4 17]
def qbyf:IC:=zr [zv 18 (.bin .add .no (.t 8) (zc 1)),zm 8 18]
def qbpt:IC:=(.seq qb22 (.seq (.cond (.t 9) .skip (.exit 0)) (.seq (.block 1 (.seq qbm9 (.seq qbw1 (.cond (.t 16) (.seq qb1r .ret) .skip)))) qbyf)))
def qbtj:IC:=zr [zm 19 0,zv 20 (.len true (.t 19)),zm 4 20]
def k0da:IC:=(.seq qbwr (.seq (.seq qbpo (.block 0 (.loop qbpt))) (.seq qbtj .ret)))
@[go_sem] def s0da:List (RV×Co):=[(.t 4,.id)]
theorem c0da:cFun Tryz.prog 184 = some (21,k0da,s0da):=by kernel_rfl

def qb35:IC:=zr [zv 2 zf]
def qbsw:IC:=zr [zm 3 0,zv 4 (zq (.t 3) (.c (.int .u8 9))),zm 5 4,zw 5 false 6 (zo 0),zw 5 false 7 (zq (.t 6) (.c (.int .u8 10))),zv 8 (.pick (.t 5) (.c (.bool true)) (.t 7)),zm 9 8,zw 9 false 10 (zo 0),zw 9 false 11 (zq (.t 10) (.c (.int .u8 13))),zv 12 (.pick (.t 9) (.c (.bool true)) (.t 11)),zm 13 12,zw 13 false 14 (zo 0),zw 13 false 15 (zq (.t 14) (.c (.int .u8 32))),zv 16 (.pick (.t 13) (.c (.bool true)) (.t 15)),zm 2 16]
def k0cy:IC:=(.seq qb35 (.seq qbsw .ret))
@[go_sem] def s0cy:List (RV×Co):=[(.t 2,.id)]
theorem c0cy:cFun Tryz.prog 185 = some (17,k0cy,s0cy):=by kernel_rfl

def qbz2:IC:=zr [zv 4 zf]
def qbne:IC:=zr [zm 5 0,zm 6 1,zi 7 (zk 209 [zI 5,zI 6]),zm 4 7]
def k0dc:IC:=(.seq qbz2 (.seq qbne .ret))
@[go_sem] def s0dc:List (RV×Co):=[(.t 4,.id)]
theorem c0dc:cFun Tryz.prog 186 = some (8,k0dc,s0dc):=by kernel_rfl

def qbuj:IC:=zr [zv 2 zf]
def qbj9:IC:=zr [zm 3 0,zv 4 (.bin .neq .no (.t 3) (.c (.int .u8 10))),zm 2 4]
def k0cz:IC:=(.seq qbuj (.seq qbj9 .ret))
@[go_sem] def s0cz:List (RV×Co):=[(.t 2,.id)]
theorem c0cz:cFun Tryz.prog 187 = some (5,k0cz,s0cz):=by kernel_rfl

def qb40:IC:=zr [zv 2 zf]
def qby0:IC:=zr [zm 3 0,zv 4 (.bin .geq .no (.t 3) (.c (.int .u8 48))),zm 5 4,zw 5 true 6 (zo 0),zw 5 true 7 (.bin .leq .no (.t 6) (.c (.int .u8 57))),zv 8 (.pick (.t 5) (.t 7) (.c (.bool false))),zm 2 8]
def k0cw:IC:=(.seq qb40 (.seq qby0 .ret))
@[go_sem] def s0cw:List (RV×Co):=[(.t 2,.id)]
theorem c0cw:cFun Tryz.prog 188 = some (9,k0cw,s0cw):=by kernel_rfl

def qb51:IC:=zr [zv 2 (.mov (zc 0)),zv 3 (.mov (zc 0))]
def qbmv:IC:=zr [zm 8 0,zv 9 (.len true (.t 8)),zv 10 (.mov (zc 0))]
def qb6g:IC:=zr [zv 11 (.bin .lss .no (.t 10) (.t 9))]
def qbxz:IC:=zr [zm 12 10,zm 4 12]
def qbps:IC:=zr [zm 13 0,zm 14 4,zv 15 (.idx (.t 13) (.t 14)),zv 16 (.bin .lss .no (.t 15) (.c (.int .u8 48))),zm 17 16,zw 17 false 18 (zo 0),zw 17 false 19 (zo 4),zw 17 false 20 (.idx (.t 18) (.t 19)),zw 17 false 21 (.bin .gtr .no (.t 20) (.c (.int .u8 57))),zv 22 (.pick (.t 17) (.c (.bool true)) (.t 21))]
def qbwu:IC:=zr [zv 2 (.mov (zc 0)),zv 3 (.mov (zc 5))]
def qbwk:IC:=zr [zv 23 (.bin .add .no (.t 10) (zc 1)),zm 10 23]
def qbms:IC:=(.seq qb6g (.seq (.cond (.t 11) .skip (.exit 0)) (.seq (.block 1 (.seq qbxz (.seq qbps (.cond (.t 22) (.seq qbwu .ret) .skip)))) qbwk)))
def qbqp:IC:=zr [zm 24 0,zv 25 (zq (.t 24) (.c (.str [])))]
def qbgv:IC:=zr [zv 2 (.mov (zc 0)),zv 3 (.mov (zc 5))]
def qbe0:IC:=zr [zv 5 (.mov (zc 0)),zv 6 (.mov (zc 0))]
def qbf3:IC:=zr [zm 26 0,zm 27 6,zv 28 (.idx (.t 26) (.t 27)),zv 29 (.bin .sub .no (.t 28) (.c (.int .u8 48))),zv 30 (.cvi .i64 (.t 29)),zm 7 30]
def qba3:IC:=zr [zm 31 5,zm 32 7,zv 33 (.bin .sub .no (zc 9223372036854775807) (.t 32)),zv 34 (.bin .quo .no (.t 33) (zc 10)),zv 35 (.bin .gtr .no (.t 31) (.t 34))]
def qbfe:IC:=zr [zv 2 (.mov (zc 0)),zv 3 (.mov (zc 4))]
def qbas:IC:=zr [zm 36 5,zv 37 (.bin .mul .no (zc 10) (.t 36)),zm 38 7,zv 39 (.bin .add .no (.t 37) (.t 38)),zm 5 39]
def qbex:IC:=zr [zm 40 6,zv 41 (.bin .add .no (.t 40) (zc 1)),zm 6 41]
def qba0:IC:=zr [zm 42 6,zm 43 0,zv 44 (.len true (.t 43)),zv 45 (.bin .lss .no (.t 42) (.t 44))]
def qbel:IC:=zr [zm 46 5,zm 2 46,zv 3 (.mov (zc 0))]
def k0cp:IC:=(.seq qb51 (.scope (.seq (.seq qbmv (.block 0 (.loop qbms))) (.seq (.seq qbqp (.cond (.t 25) (.seq qbgv .ret) .skip)) (.seq qbe0 (.seq (.label 0) (.seq qbf3 (.seq (.seq qba3 (.cond (.t 35) (.seq qbfe .ret) .skip)) (.seq qbas (.seq (.seq qbex (.seq qba0 (.cond (.t 45) (.goto 0) .skip))) (.seq qbel .ret)))))))))))
@[go_sem] def s0cp:List (RV×Co):=[(.t 2,.id),(.t 3,.id)]
theorem c0cp:cFun Tryz.prog 189 = some (47,k0cp,s0cp):=by kernel_rfl

def qbt5:IC:=zr [zv 2 zf]
def qbow:IC:=zr [zm 3 0,zv 4 (.bin .geq .no (.t 3) (.c (.int .u8 97))),zm 5 4,zw 5 true 6 (zo 0),zw 5 true 7 (.bin .leq .no (.t 6) (.c (.int .u8 122))),zv 8 (.pick (.t 5) (.t 7) (.c (.bool false))),zm 9 8,zw 9 false 10 (zo 0),zw 9 false 11 (.bin .geq .no (.t 10) (.c (.int .u8 65))),zw 9 false 12 (zo 11),zw 12 true 13 (zo 0),zw 12 true 14 (.bin .leq .no (.t 13) (.c (.int .u8 90))),zw 9 false 15 (.pick (.t 12) (.t 14) (.c (.bool false))),zv 16 (.pick (.t 9) (.c (.bool true)) (.t 15)),zm 17 16,zw 17 false 18 (zo 0),zw 17 false 19 (zq (.t 18) (.c (.int .u8 95))),zv 20 (.pick (.t 17) (.c (.bool true)) (.t 19)),zm 21 20,zw 21 false 22 (zo 0),zw 21 false 23 (zq (.t 22) (.c (.int .u8 39))),zv 24 (.pick (.t 21) (.c (.bool true)) (.t 23)),zm 25 24,zw 25 false 26 (zo 0),zj 25 false 27 (zk 188 [zI 26]),zv 28 (.pick (.t 25) (.c (.bool true)) (.t 27)),zm 2 28]
def k0cx:IC:=(.seq qbt5 (.seq qbow .ret))
@[go_sem] def s0cx:List (RV×Co):=[(.t 2,.id)]
theorem c0cx:cFun Tryz.prog 190 = some (29,k0cx,s0cx):=by kernel_rfl

def qbtr:IC:=zr [zi 2 zaT]
def qb1n:IC:=zr [zm 4 0,zv 5 (.bld [(.int .i64 0),(.int .i64 0),(.int .i64 0),(.str [])] [(0,1,(zc 1)),(3,1,(.t 4))]),zi 3 zaT,zn (.st 4 .id (.t 3) (.t 5))]
def qb16:IC:=zr [zm 7 0,zv 8 (zq (.t 7) (.c (.str [95]))),zm 6 8]
def qb5z:IC:=zr [zv 9 (zd 3 0),zn (.st 1 .id (.t 9) (zc 5))]
def qbtv:IC:=zr [zm 11 0,zi 12 (zk 144 [zI 11]),zm 10 12]
def qb0w:IC:=zr [zv 13 (zd 3 0),zn (.st 1 .id (.t 13) (zc 4))]
def qbv3:IC:=zr [zm 15 0,zi 16 (zk 91 [zI 15]),zm 14 16]
def qbpk:IC:=zr [zv 17 (zd 3 0),zn (.st 1 .id (.t 17) (zc 2))]
def qbqg:IC:=zr [zv 18 (zl 4 3),zn (.st 4 .id (.t 2) (.t 18))]
def k0ct:IC:=(.seq qbtr (.seq qb1n (.seq (.block 0 (.seq qb16 (.cond (.t 6) qb5z (.seq qbtv (.cond (.t 10) qb0w (.seq qbv3 (.cond (.t 14) qbpk .skip))))))) (.seq qbqg .ret))))
@[go_sem] def s0ct:List (RV×Co):=[(.c true 4 2,.id)]
theorem c0ct:cFun Tryz.prog 191 = some (19,k0ct,s0ct):=by kernel_rfl

def qb2b:IC:=zr [zv 2 (.mov (zc 0))]
def qbz4:IC:=zr [zv 5 (.bld [(.str []),(.str []),(.str []),(.str []),(.str []),(.str []),(.str []),(.str []),(.str []),(.str []),(.str []),(.str [])] [(0,1,(.c (.str [45,62]))),(1,1,(.c (.str [61,62]))),(2,1,(.c (.str [58,58]))),(3,1,(.c (.str [40]))),(4,1,(.c (.str [41]))),(5,1,(.c (.str [123]))),(6,1,(.c (.str [125]))),(7,1,(.c (.str [59]))),(8,1,(.c (.str [44]))),(9,1,(.c (.str [61]))),(10,1,(.c (.str [124]))),(11,1,(.c (.str [92])))]),zv 6 (.mov (zc 0))]
def qbsb:IC:=zr [zv 7 (.bin .lss .no (.t 6) (zc 12))]
def qbx8:IC:=zr [zv 8 (.ida false 1 12 (.t 5) (.t 6)),zm 4 8]
def qbl1:IC:=zr [zm 9 0,zm 10 4,zi 11 (zk 186 [zI 9,zI 10])]
def qb2l:IC:=zr [zm 12 4,zv 13 (.len true (.t 12)),zm 2 13]
def qbj2:IC:=zr [zv 14 (.bin .add .no (.t 6) (zc 1)),zm 6 14]
def qbr8:IC:=(.seq qbsb (.seq (.cond (.t 7) .skip (.exit 0)) (.seq (.block 1 (.seq qbx8 (.seq qbl1 (.cond (.t 11) (.seq qb2l .ret) .skip)))) qbj2)))
def qbr4:IC:=zr [zv 2 (.mov (zc 0))]
def k0cu:IC:=(.seq qb2b (.seq (.seq qbz4 (.block 0 (.loop qbr8))) (.seq qbr4 .ret)))
@[go_sem] def s0cu:List (RV×Co):=[(.t 2,.id)]
theorem c0cu:cFun Tryz.prog 192 = some (15,k0cu,s0cu):=by kernel_rfl

def qbrj:IC:=zr [zi 2 (.box (.t 0)),zv 4 zf]
def qbtf:IC:=zr [zv 7 (zd 2 0),zv 8 (zg 1 7),zv 9 (.bin .neq .no (.t 8) (zc 4)),zm 10 9,zw 10 true 11 (zd 2 0),zw 10 true 12 (zg 1 11),zw 10 true 13 (.bin .neq .no (.t 12) (zc 5)),zv 14 (.pick (.t 10) (.t 13) (.c (.bool false)))]
def qbs7:IC:=zr [zv 4 zf]
def qbjz:IC:=zr [zm 15 1,zv 16 (.len false (.t 15)),zv 17 (.mov (zc 0))]
def qbxp:IC:=zr [zv 18 (.bin .lss .no (.t 17) (.t 16))]
def qb3j:IC:=zr [zv 19 (.iad 1 (.t 15) (.t 17)),zv 20 (zg 1 19),zm 6 20]
def qbvq:IC:=zr [zv 21 (zd 2 3),zv 22 (zg 1 21),zm 23 6,zv 24 (zq (.t 22) (.t 23))]
def qbjk:IC:=zr [zv 4 (.mov (.c (.bool true)))]
def qb0p:IC:=zr [zv 25 (.bin .add .no (.t 17) (zc 1)),zm 17 25]
def k0el_l4:IC:=(.seq qbxp (.seq (.cond (.t 18) .skip (.exit 0)) (.seq (.block 1 (.seq qb3j (.seq qbvq (.cond (.t 24) (.seq qbjk .ret) .skip)))) qb0p)))
def k0el_r11:IC:=zr [zv 4 zf]
def k0el:IC:=(.seq qbrj (.seq (.seq qbtf (.cond (.t 14) (.seq qbs7 .ret) .skip)) (.seq (.seq qbjz (.block 0 (.loop k0el_l4))) (.seq k0el_r11 .ret))))
@[go_sem] def s0el:List (RV×Co):=[(.t 4,.id)]
theorem c0el:cFun Tryz.prog 193 = some (26,k0el,s0el):=by kernel_rfl

def qb4g:IC:=zr [zv 4 (.mov (.c .nils)),zv 5 zf]
def qbn0:IC:=zr [zm 9 0,zi 10 (zk 156 [zI 9,((.c (.str [123])),.id)]),zv 11 (.un .not (.t 10))]
def qbl9:IC:=zr [zv 4 (.mov (.c .nils)),zv 5 zf]
def qb57:IC:=zr [zv 6 (.mov (.c .nils))]
def qbzx:IC:=zr [zm 13 1,zi 14 (.call (.t 13) []),zm 12 14,zv 15 (zx 12 0),zv 16 (zx 12 1),zi 7 zaN,zn (.st 5 zN (.t 7) (.t 15)),zm 8 16]
def qbyn:IC:=zr [zm 17 8,zv 18 (.un .not (.t 17))]
def qb5e:IC:=zr [zv 4 (.mov (.c .nils)),zv 5 zf]
def qbzu:IC:=zr [zm 19 6,zv 20 (zl 5 7),zv 21 (.bsl 5 [zA 20]),zi 22 (.app 5 zZ 64 (.sl 5) (.t 19) (.t 21)),zm 6 22]
def q7g:IC:=zr [zm 23 0,zi 24 (zk 105 [zI 23,((.c (.str [59])),.id)]),zv 25 (.un .not (.t 24)),zm 26 25,zw 26 false 27 (zo 0),zj 26 false 28 (zk 155 [zI 27,((.c (.str [125])),.id)]),zv 29 (.pick (.t 26) (.c (.bool true)) (.t 28))]
def q9u:IC:=zr [zm 30 6,zm 31 0,zi 32 (zk 156 [zI 31,((.c (.str [125])),.id)]),zm 4 30,zm 5 32]
def q9c:IC:=(.block 1 (.seq qbzx (.seq (.seq qbyn (.cond (.t 18) (.seq qb5e .ret) .skip)) (.seq qbzu (.seq q7g (.cond (.t 29) (.seq q9u .ret) .skip))))))
def k0dm:IC:=(.seq qb4g (.seq (.seq qbn0 (.cond (.t 11) (.seq qbl9 .ret) .skip)) (.seq qb57 (.block 0 (.loop q9c)))))
@[go_sem] def s0dm:List (RV×Co):=[(.t 4,(.sl 5)),(.t 5,.id)]
theorem c0dm:cFun Tryz.prog 194 = some (33,k0dm,s0dm):=by kernel_rfl

def qbki:IC:=zr [zi 1 zaN,zv 2 zf]
def qb47:IC:=zr [zv 3 (zg 1 0),zi 4 (zk 108 [zI 3]),zv 5 (zx 4 0),zv 6 (zx 4 1),zn (.st 5 zN (.t 1) (.t 5)),zm 2 6]
def k0dk:IC:=(.seq qbki (.seq qb47 .ret))
@[go_sem] def s0dk:List (RV×Co):=[(.c true 5 1,zN),(.t 2,.id)]
theorem c0dk:cFun Tryz.prog 195 = some (7,k0dk,s0dk):=by kernel_rfl

def qb2d:IC:=zr [zi 1 zaN,zv 2 zf]
def qb45:IC:=zr [zv 7 (zg 1 0),zi 8 (zk 54 [zI 7]),zm 6 8,zv 9 (zx 6 0),zv 10 (zx 6 1),zi 3 zaN,zn (.st 5 zN (.t 3) (.t 9)),zm 4 10]
def qb3t:IC:=zr [zm 11 4,zv 12 (.un .not (.t 11)),zm 13 12,zw 13 false 14 (zg 1 0),zj 13 false 15 (zk 156 [zI 14,((.c (.str [45,62])),.id)]),zw 13 false 16 (.un .not (.t 15)),zv 17 (.pick (.t 13) (.c (.bool true)) (.t 16))]
def qb4c:IC:=zr [zv 18 (zl 5 3),zn (.st 5 zN (.t 1) (.t 18)),zv 2 zf]
def qb3a:IC:=zr [zv 20 (zg 1 0),zi 21 (zk 58 [zI 20]),zm 19 21,zv 22 (zx 19 0),zv 23 (zx 19 1),zi 5 zaN,zn (.st 5 zN (.t 5) (.t 22)),zm 4 23]
def qbpb:IC:=zr [zv 24 (zd 3 1),zv 25 (zg 1 24),zv 26 (zl 5 3),zv 27 (zl 5 5),zv 28 (.bsl 5 [zA 26,zA 27]),zv 29 (.bld [(.int .i64 0),(.int .i64 0),(.int .i64 0),(.str []),.nils] [(0,1,(zc 15)),(1,1,(.t 25)),(4,1,(.t 28))]),zm 30 4,zn (.st 5 zN (.t 1) (.t 29)),zm 2 30]
def k0dl:IC:=(.seq qb2d (.seq qb45 (.seq (.seq qb3t (.cond (.t 17) (.seq qb4c .ret) .skip)) (.seq qb3a (.seq qbpb .ret)))))
@[go_sem] def s0dl:List (RV×Co):=[(.c true 5 1,zN),(.t 2,.id)]
theorem c0dl:cFun Tryz.prog 196 = some (31,k0dl,s0dl):=by kernel_rfl

def qbx4:IC:=zr [zi 2 zaN,zv 3 zf]
def qbt2:IC:=zr [zm 9 0,zi 10 (zk 198 [zI 9]),zm 8 10,zv 11 (zx 8 0),zv 12 (zx 8 1),zi 4 zaN,zn (.st 5 zN (.t 4) (.t 11)),zm 5 12]
def qbnu:IC:=zr [zm 13 5]
def qbsr:IC:=zr [zm 14 0,zi 15 (zk 154 [zI 14])]
def qb0z:IC:=zr [zv 16 (zl 5 4),zn (.st 5 zN (.t 2) (.t 16)),zv 3 (.mov (.c (.bool true)))]
def qb5s:IC:=zr [zm 17 0,zi 18 (zk 155 [zI 17,((.c (.str [40])),.id)]),zv 19 (.un .not (.t 18))]
def qb6c:IC:=zr [zv 20 (.bld [(.int .i64 0),(.int .i64 0),(.int .i64 0),(.str []),.nils] []),zm 21 0,zi 22 (zk 152 [zI 21,((zc 5),.id)]),zn (.st 5 zN (.t 2) (.t 20)),zm 3 22]
def qbx3:IC:=zr [zm 23 0,zi 24 (zk 95 [zI 23]),zv 25 (.un .not (.t 24))]
def qbyl:IC:=zr [zv 26 (.bld [(.int .i64 0),(.int .i64 0),(.int .i64 0),(.str []),.nils] []),zn (.st 5 zN (.t 2) (.t 26)),zv 3 zf]
def qbmr:IC:=zr [zm 27 0,zi 28 (zk 154 [zI 27])]
def qbaf:IC:=zr [zm 30 0,zi 31 (zk 58 [zI 30]),zm 29 31,zv 32 (zx 29 0),zv 33 (zx 29 1),zi 6 zaN,zn (.st 5 zN (.t 6) (.t 32)),zm 7 33]
def qbby:IC:=zr [zm 34 7,zv 35 (.un .not (.t 34)),zm 36 35,zw 36 false 37 (zo 0),zj 36 false 38 (zk 156 [zI 37,((.c (.str [41])),.id)]),zw 36 false 39 (.un .not (.t 38)),zv 40 (.pick (.t 36) (.c (.bool true)) (.t 39))]
def q9z:IC:=zr [zv 41 (.bld [(.int .i64 0),(.int .i64 0),(.int .i64 0),(.str []),.nils] []),zn (.st 5 zN (.t 2) (.t 41)),zv 3 zf]
def qbeo:IC:=zr [zm 42 0,zi 43 (zk 98 [zI 42])]
def qbcq:IC:=zr [zv 44 (zl 5 6),zn (.st 5 zN (.t 2) (.t 44)),zv 3 (.mov (.c (.bool true)))]
def k0dq:IC:=(.seq qbx4 (.seq (.seq qbt2 (.seq qbnu (.cond (.t 13) (.seq qbsr (.seq qb0z .ret)) .skip))) (.seq (.seq qb5s (.cond (.t 19) (.seq qb6c .ret) .skip)) (.seq (.seq qbx3 (.cond (.t 25) (.seq qbyl .ret) .skip)) (.seq qbmr (.seq qbaf (.seq (.seq qbby (.cond (.t 40) (.seq q9z .ret) .skip)) (.seq qbeo (.seq qbcq .ret)))))))))
@[go_sem] def s0dq:List (RV×Co):=[(.c true 5 2,zN),(.t 3,.id)]
theorem c0dq:cFun Tryz.prog 197 = some (45,k0dq,s0dq):=by kernel_rfl

def qbo5:IC:=zr [zi 2 zaN,zv 3 zf]
def qbza:IC:=zr [zm 5 0,zi 6 (zk 66 [zI 5]),zi 4 zaT,zn (.st 4 .id (.t 4) (.t 6))]
def qbt6:IC:=zr [zv 7 (zd 4 0),zv 8 (zg 1 7)]
def qbtt:IC:=zr [zv 10 (zq (.t 8) (zc 1)),zm 9 10]
def qb30:IC:=zr [zv 11 (zd 4 1),zv 12 (zg 1 11),zv 13 (zd 4 3),zv 14 (zg 1 13),zv 15 (.bld [(.int .i64 0),(.int .i64 0),(.int .i64 0),(.str []),.nils] [(0,1,(zc 21)),(1,1,(.t 12)),(3,1,(.t 14))]),zn (.st 5 zN (.t 2) (.t 15)),zv 3 (.mov (.c (.bool true)))]
def qb1x:IC:=zr [zv 17 (zq (.t 8) (zc 2)),zm 16 17]
def qb1b:IC:=zr [zv 18 (zd 4 1),zv 19 (zg 1 18),zv 20 (zd 4 3),zv 21 (zg 1 20),zv 22 (.bld [(.int .i64 0),(.int .i64 0),(.int .i64 0),(.str []),.nils] [(0,1,(zc 22)),(1,1,(.t 19)),(3,1,(.t 21))]),zn (.st 5 zN (.t 2) (.t 22)),zv 3 (.mov (.c (.bool true)))]
def qblb:IC:=zr [zv 24 (zq (.t 8) (zc 3)),zm 23 24]
def qbqr:IC:=zr [zv 25 (zd 4 1),zv 26 (zg 1 25),zv 27 (zd 4 2),zv 28 (zg 1 27),zv 29 (.bld [(.int .i64 0),(.int .i64 0),(.int .i64 0),(.str []),.nils] [(0,1,(zc 23)),(1,1,(.t 26)),(2,1,(.t 28))]),zn (.st 5 zN (.t 2) (.t 29)),zv 3 (.mov (.c (.bool true)))]
def qblh:IC:=zr [zv 30 (.bld [(.int .i64 0),(.int .i64 0),(.int .i64 0),(.str []),.nils] []),zn (.st 5 zN (.t 2) (.t 30)),zv 3 zf]
def k0dp:IC:=(.seq qbo5 (.seq qbza (.seq (.seq qbt6 (.block 0 (.seq qbtt (.cond (.t 9) (.seq qb30 .ret) (.seq qb1x (.cond (.t 16) (.seq qb1b .ret) (.seq qblb (.cond (.t 23) (.seq qbqr .ret) .skip)))))))) (.seq qblh .ret))))
@[go_sem] def s0dp:List (RV×Co):=[(.c true 5 2,zN),(.t 3,.id)]
theorem c0dp:cFun Tryz.prog 198 = some (31,k0dp,s0dp):=by kernel_rfl

def qbqm:IC:=zr [zi 1 zaN,zv 2 zf]
def qb1g:IC:=zr [zv 3 (zg 1 0),zi 4 (zk 165 [zI 3]),zv 5 (zx 4 0),zv 6 (zx 4 1),zn (.st 5 zN (.t 1) (.t 5)),zm 2 6]
def k0fl:IC:=(.seq qbqm (.seq qb1g .ret))
@[go_sem] def s0fl:List (RV×Co):=[(.c true 5 1,zN),(.t 2,.id)]
theorem c0fl:cFun Tryz.prog 199 = some (7,k0fl,s0fl):=by kernel_rfl

def qbr7:IC:=zr [zv 1 zf]
def qb6f:IC:=zr [zv 2 (zg 1 0),zi 3 (zk 201 [zI 2]),zm 1 3]
def k0fm:IC:=(.seq qbr7 (.seq qb6f .ret))
@[go_sem] def s0fm:List (RV×Co):=[(.t 1,.id)]
theorem c0fm:cFun Tryz.prog 200 = some (4,k0fm,s0fm):=by kernel_rfl

def qbmd:IC:=zr [zv 2 zf]
def qbk0:IC:=zr [zm 4 0,zi 5 (zk 66 [zI 4]),zv 6 (.fld false 1 0 (.t 5)),zm 3 6]
def qbmf:IC:=zr [zm 7 3,zv 8 (zq (.t 7) (zc 1)),zm 9 8,zw 9 false 10 (zo 3),zw 9 false 11 (zq (.t 10) (zc 2)),zv 12 (.pick (.t 9) (.c (.bool true)) (.t 11)),zm 13 12,zw 13 false 14 (zo 0),zj 13 false 15 (zk 155 [zI 14,((.c (.str [40])),.id)]),zv 16 (.pick (.t 13) (.c (.bool true)) (.t 15)),zm 2 16]
def k0fk:IC:=(.seq qbmd (.seq qbk0 (.seq qbmf .ret)))
@[go_sem] def s0fk:List (RV×Co):=[(.t 2,.id)]
theorem c0fk:cFun Tryz.prog 201 = some (17,k0fk,s0fk):=by kernel_rfl

def qbzk:IC:=zr [zi 2 zaN,zv 3 zf]
def qbqc:IC:=zr [zv 4 (zg 1 0),zv 5 (zg 1 1),zi 6 (zk 203 [zI 4,zI 5]),zv 7 (zx 6 0),zv 8 (zx 6 1),zn (.st 5 zN (.t 2) (.t 7)),zm 3 8]
def k0fd:IC:=(.seq qbzk (.seq qbqc .ret))
@[go_sem] def s0fd:List (RV×Co):=[(.c true 5 2,zN),(.t 3,.id)]
theorem c0fd:cFun Tryz.prog 202 = some (9,k0fd,s0fd):=by kernel_rfl

def qb3x:IC:=zr [zi 4 zaN,zv 5 zf]
def qbj0:IC:=zr [zm 9 0,zi 10 (zk 108 [zI 9]),zm 8 10,zv 11 (zx 8 0),zv 12 (zx 8 1),zi 6 zaN,zn (.st 5 zN (.t 6) (.t 11)),zm 7 12]
def qbzm:IC:=zr [zm 13 7,zm 14 13,zw 14 true 15 (zd 6 0),zw 14 true 16 (zg 1 15),zw 14 true 17 (zo 1),zw 14 true 18 (.bin .neq .no (.t 16) (.t 17)),zv 19 (.pick (.t 14) (.t 18) (.c (.bool false)))]
def qbux:IC:=.drw [zp (zv 20 (zl 5 6)),zp (zm 21 0),(zi 22 (zk 152 [zI 21,((zc 5),.id)]),[0]),(zn (.st 5 zN (.t 4) (.t 20)),[]),zp (zm 5 22)]
def qbv2:IC:=zr [zv 23 (zl 5 6),zm 24 7,zn (.st 5 zN (.t 4) (.t 23)),zm 5 24]
def k0fc:IC:=(.seq qb3x (.seq qbj0 (.seq (.seq qbzm (.cond (.t 19) (.seq qbux .ret) .skip)) (.seq qbv2 .ret))))
@[go_sem] def s0fc:List (RV×Co):=[(.c true 5 4,zN),(.t 5,.id)]
theorem c0fc:cFun Tryz.prog 203 = some (25,k0fc,s0fc):=by kernel_rfl

def qb1o:IC:=zr [zv 2 zf]
def qbkc:IC:=zr [zv 3 (zg 1 0),zi 4 (zk 155 [zI 3,((.c (.str [125])),.id)]),zv 5 (.un .not (.t 4)),zm 6 5,zw 6 true 7 (zg 1 1),zj 6 true 8 (.call (.t 7) []),zv 9 (.pick (.t 6) (.t 8) (.c (.bool false))),zm 10 9,zw 10 true 11 (zg 1 0),zj 10 true 12 (zk 155 [zI 11,((.c (.str [125])),.id)]),zw 10 true 13 (.un .not (.t 12)),zv 14 (.pick (.t 10) (.t 13) (.c (.bool false))),zm 2 14]
def k0fe:IC:=(.seq qb1o (.seq qbkc .ret))
@[go_sem] def s0fe:List (RV×Co):=[(.t 2,.id)]
theorem c0fe:cFun Tryz.prog 204 = some (15,k0fe,s0fe):=by kernel_rfl

def qbyj:IC:=zr [zv 4 zf]
def qbnk:IC:=zr [zm 5 0,zv 6 (.len true (.t 5)),zm 7 1,zv 8 (.len true (.t 7)),zv 9 (.bin .geq .no (.t 6) (.t 8)),zm 10 9,zw 10 true 11 (zo 0),zw 10 true 12 (zo 1),zw 10 true 13 (.len true (.t 12)),zw 10 true 14 (.sls (.t 11) none (some (.t 13))),zw 10 true 15 (zo 1),zw 10 true 16 (zq (.t 14) (.t 15)),zv 17 (.pick (.t 10) (.t 16) (.c (.bool false))),zm 4 17]
def k0db:IC:=(.seq qbyj (.seq qbnk .ret))
@[go_sem] def s0db:List (RV×Co):=[(.t 4,.id)]
theorem c0db:cFun Tryz.prog 209 = some (18,k0db,s0db):=by kernel_rfl

end Go.Proofs.YtlmcofjcpadmiaaGreat
