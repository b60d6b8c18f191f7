/- A text of this proof. -/
import Derived.Test.YtlmcofjcpadmiaaGreatNah
import Derived.Test.YtlmcofjcpadmiaaGreatProg
set_option linter.unusedVariables false
set_option linter.unusedSimpArgs false
/- The compiled code of the functions. -/
namespace Go.Proofs.YtlmcofjcpadmiaaGreat
open Go Go.V
@[reducible] def zm (d s:Nat):GI:=⟨none,some d,.v (.mov (.t s))⟩
@[reducible] def zv (d:Nat) (x:IV):GI:=⟨none,some d,.v x⟩
@[reducible] def zi (d:Nat) (i:I):GI:=⟨none,some d,i⟩
@[reducible] def zn (i:I):GI:=⟨none,none,i⟩
@[reducible] def zw (j:Nat) (b:Bool) (d:Nat) (x:IV):GI:=⟨some (j,b),some d,.v x⟩
@[reducible] def zp (g:GI):GI×List Nat:=(g,[])
@[reducible] def zN:Co:=.agg [.id,.id,.id,.id,(.sl 5)]
@[reducible] def zC:Co:=.agg [(.sl 4),.id,.id,.id,.id,.id,.id,.id]
@[reducible] def zaN:I:=.alo [(.int .i64 0),(.int .i64 0),(.int .i64 0),(.str []),.nils]
@[reducible] def zaC:I:=.alo [.nils,(.int .i64 0),(.int .i64 0),(.int .i64 0),(.str []),(.int .i64 0),(.int .i64 0),(.int .i64 0)]
@[reducible] def zaT:I:=.alo [(.int .i64 0),(.int .i64 0),(.int .i64 0),(.str [])]
@[reducible] def zZ:AV:=.agg [(.int .i64 0),(.int .i64 0),(.int .i64 0),(.str []),.nils]
@[reducible] def zc (n:Int):Opd:=.c (.int .i64 n)
@[reducible] def zf:IV:=.mov (.c (.bool false))
@[reducible] def zr (l:List GI):IC:=.reg false l
@[reducible] def zk (f:FuncId) (l:List (Opd×Co)):I:=.call (.c (.fn f [] [])) l
@[reducible] def zA (n:Nat):Opd×Co:=(.t n,zN)
@[reducible] def zI (n:Nat):Opd×Co:=(.t n,.id)
@[reducible] def zx (n k:Nat):IV:=.ext (.t n) k
@[reducible] def zl (n k:Nat):IV:=.ld true n (.t k)
@[reducible] def zg (n k:Nat):IV:=.ld false n (.t k)
@[reducible] def zd (n k:Nat):IV:=.fad (.t n) k
@[reducible] def zq (a b:Opd):IV:=.bin .eql .no a b
@[reducible] def zo (n:Nat):IV:=.mov (.t n)
@[reducible] def zj (j:Nat) (b:Bool) (d:Nat) (i:I):GI:=⟨some (j,b),some d,i⟩
def qcf6:IC:=zr [zv 2 zf]
def qce8:IC:=zr [zm 10 0,zv 11 (.len true (.t 10)),zv 12 (.bin .gtr .no (.t 11) (zc 3000))]
def qcd9:IC:=zr [zi 13 (zk 8 []),zm 2 13]
def qcd2:IC:=zr [zm 15 0,zi 16 (zk 28 [zI 15]),zm 14 16,zv 17 (zx 14 0),zv 18 (zx 14 1),zv 19 (zx 14 2),zi 3 zaN,zn (.st 5 zN (.t 3) (.t 17)),zm 4 18,zm 5 19]
def qci9:IC:=zr [zm 20 5,zv 21 (.bin .neq .no (.t 20) (zc 0))]
def qcij:IC:=zr [zi 22 (zk 8 []),zm 2 22]
def qcd5:IC:=zr [zv 23 (zl 5 3),zi 24 (zk 19 [zA 23]),zm 6 24]
def qcgx:IC:=zr [zm 26 6,zi 27 (zk 28 [zI 26]),zm 25 27,zv 28 (zx 25 0),zv 29 (zx 25 1),zv 30 (zx 25 2),zi 7 zaN,zn (.st 5 zN (.t 7) (.t 28)),zm 8 29,zm 9 30]
def qch9:IC:=zr [zm 31 9,zv 32 (zq (.t 31) (zc 0)),zm 33 32,zw 33 true 34 (zl 5 7),zj 33 true 35 (zk 19 [zA 34]),zw 33 true 36 (zo 6),zw 33 true 37 (zq (.t 35) (.t 36)),zv 38 (.pick (.t 33) (.t 37) (.c (.bool false))),zm 39 38,zw 39 true 40 (zl 5 3),zw 39 true 41 (zl 5 7),zj 39 true 42 (zk 29 [zA 40,zA 41]),zv 43 (.pick (.t 39) (.t 42) (.c (.bool false))),zm 44 43,zj 44 true 45 (zk 8 []),zv 46 (.pick (.t 44) (.t 45) (.c (.bool false))),zm 2 46]
def k0a:IC:=(.seq qcf6 (.seq (.seq qce8 (.cond (.t 12) (.seq qcd9 .ret) .skip)) (.seq qcd2 (.seq (.seq qci9 (.cond (.t 21) (.seq qcij .ret) .skip)) (.seq qcd5 (.seq qcgx (.seq qch9 .ret)))))))
@[go_sem] def s0a:List (RV×Co):=[(.t 2,.id)]
theorem c0a:cFun Tryz.prog 5 = some (47,k0a,s0a):=by kernel_rfl

def qcjm:IC:=zr [zv 0 zf]
def qcfa:IC:=zr [zv 5 (.bld [(.int .i64 0),(.int .i64 0),(.int .i64 0),(.str []),.nils] [(0,1,(zc 21)),(3,1,(.c (.str [120])))]),zi 1 zaN,zn (.st 5 zN (.t 1) (.t 5))]
def qcgi:IC:=zr [zv 6 (.bld [(.int .i64 0),(.int .i64 0),(.int .i64 0),(.str []),.nils] [(0,1,(zc 21)),(3,1,(.c (.str [102])))]),zv 7 (zl 5 1),zv 8 (.bsl 5 [zA 6,zA 7]),zv 9 (.bld [(.int .i64 0),(.int .i64 0),(.int .i64 0),(.str []),.nils] [(0,1,(zc 24)),(4,1,(.t 8))]),zv 10 (.bsl 5 [zA 9]),zv 11 (.bld [(.int .i64 0),(.int .i64 0),(.int .i64 0),(.str []),.nils] [(0,1,(zc 25)),(3,1,(.c (.str [120]))),(4,1,(.t 10))]),zi 2 zaN,zn (.st 5 zN (.t 2) (.t 11))]
def qciq:IC:=zr [zv 12 (.bld [(.int .i64 0),(.int .i64 0),(.int .i64 0),(.str []),.nils] [(0,1,(zc 1)),(3,1,(.c (.str [97])))]),zi 3 zaN,zn (.st 5 zN (.t 3) (.t 12))]
def qcfp:IC:=zr [zv 13 (zl 5 3),zv 14 (zl 5 3),zv 15 (.bsl 5 [zA 13,zA 14]),zv 16 (.bld [(.int .i64 0),(.int .i64 0),(.int .i64 0),(.str []),.nils] [(0,1,(zc 2)),(3,1,(.c (.str [45,62]))),(4,1,(.t 15))]),zv 17 (zl 5 3),zv 18 (.bsl 5 [zA 16,zA 17]),zv 19 (.bld [(.int .i64 0),(.int .i64 0),(.int .i64 0),(.str []),.nils] [(0,1,(zc 2)),(3,1,(.c (.str [45,62]))),(4,1,(.t 18))]),zi 4 zaN,zn (.st 5 zN (.t 4) (.t 19))]
def qcc4:IC:=zr [zv 20 (zl 5 2),zi 21 (zk 15 [zA 20]),zv 22 (zq (.t 21) (.c (.str [92,32,120,32,45,62,32,102,32,120]))),zm 23 22,zw 23 true 24 (zl 5 4),zj 23 true 25 (zk 9 [zA 24]),zw 23 true 26 (zq (.t 25) (.c (.str [40,97,32,45,62,32,97,41,32,45,62,32,97]))),zv 27 (.pick (.t 23) (.t 26) (.c (.bool false))),zm 28 27,zw 28 true 29 (zl 5 4),zj 28 true 30 (zk 15 [zA 29]),zw 28 true 31 (zq (.t 30) (.c (.str []))),zv 32 (.pick (.t 28) (.t 31) (.c (.bool false))),zm 33 32,zw 33 true 34 (.bld [(.int .i64 0),(.int .i64 0),(.int .i64 0),(.str []),.nils] [(0,1,(zc 37))]),zj 33 true 35 (zk 19 [zA 34]),zw 33 true 36 (zq (.t 35) (.c (.str []))),zv 37 (.pick (.t 33) (.t 36) (.c (.bool false))),zm 38 37,zw 38 true 39 (zl 5 2),zw 38 true 40 (.bsl 5 [zA 39]),zw 38 true 41 (.bld [(.int .i64 0),(.int .i64 0),(.int .i64 0),(.str []),.nils] [(0,1,(zc 31)),(3,1,(.c (.str [120]))),(4,1,(.t 40))]),zj 38 true 42 (zk 17 [zA 41]),zw 38 true 43 (zq (.t 42) (.c (.str [120,32,61,32,92,32,120,32,45,62,32,102,32,120]))),zv 44 (.pick (.t 38) (.t 43) (.c (.bool false))),zm 45 44,zw 45 true 46 (.bld [(.int .i64 0),(.int .i64 0),(.int .i64 0),(.str []),.nils] [(0,1,(zc 12))]),zj 45 true 47 (zk 13 [zA 46]),zw 45 true 48 (zq (.t 47) (.c (.str [95]))),zv 49 (.pick (.t 45) (.t 48) (.c (.bool false))),zm 50 49,zw 50 true 51 (zl 5 3),zw 50 true 52 (.bsl 5 [zA 51]),zw 50 true 53 (.bld [(.int .i64 0),(.int .i64 0),(.int .i64 0),(.str []),.nils] [(0,1,(zc 4)),(4,1,(.t 52))]),zj 50 true 54 (zk 11 [zA 53]),zw 50 true 55 (zq (.t 54) (.c (.str [97]))),zv 56 (.pick (.t 50) (.t 55) (.c (.bool false))),zm 0 56]
def k0b:IC:=(.seq qcjm (.seq qcfa (.seq qcgi (.seq qciq (.seq qcfp (.seq qcc4 .ret))))))
@[go_sem] def s0b:List (RV×Co):=[(.t 0,.id)]
theorem c0b:cFun Tryz.prog 8 = some (57,k0b,s0b):=by kernel_rfl

def qcfg:IC:=zr [zi 1 (.box (.t 0)),zv 2 (.mov (.c (.str [])))]
def qcjv:IC:=.drw [zp (zv 3 (zl 5 1)),(zi 4 (zk 21 [zA 3]),[]),(zv 5 (zl 5 1),[1]),(zv 6 (.bld [(.int .i64 0),(.int .i64 0),(.int .i64 0),(.str []),.nils] [(0,5,(.t 5))]),[]),(zv 7 (.mki 37 (.t 6) zN),[1]),(zi 8 (zk 33 [zI 4,zI 7]),[]),zp (zm 2 8)]
def k0f:IC:=(.seq qcfg (.seq qcjv .ret))
@[go_sem] def s0f:List (RV×Co):=[(.t 2,.id)]
theorem c0f:cFun Tryz.prog 9 = some (9,k0f,s0f):=by kernel_rfl

def qciy:IC:=zr [zi 1 (.box (.t 0)),zv 2 (.mov (.c (.str [])))]
def qchr:IC:=zr [zv 3 (zl 5 1),zv 4 (.bsl 5 [zA 3]),zv 5 (.bld [(.int .i64 0),(.int .i64 0),(.int .i64 0),(.str []),.nils] [(0,1,(zc 32)),(3,1,(.c (.str [120]))),(4,1,(.t 4))]),zi 6 (zk 30 [zA 5]),zv 7 (.un .not (.t 6))]
def qch5:IC:=zr [zv 2 (.mov (.c (.str [])))]
def qcj5:IC:=zr [zv 8 (zl 5 1),zi 9 (zk 36 [zA 8]),zm 2 9]
def k0i:IC:=(.seq qciy (.seq (.seq qchr (.cond (.t 7) (.seq qch5 .ret) .skip)) (.seq qcj5 .ret)))
@[go_sem] def s0i:List (RV×Co):=[(.t 2,.id)]
theorem c0i:cFun Tryz.prog 11 = some (10,k0i,s0i):=by kernel_rfl

def qcjq:IC:=zr [zi 1 (.box (.t 0)),zv 2 (.mov (.c (.str [])))]
def qcfd:IC:=.drw [zp (zv 3 (zl 5 1)),(zi 4 (zk 24 [zA 3]),[]),(zv 5 (zl 5 1),[1]),(zv 6 (.bld [(.int .i64 0),(.int .i64 0),(.int .i64 0),(.str []),.nils] [(0,5,(.t 5))]),[]),(zv 7 (.mki 38 (.t 6) zN),[1]),(zi 8 (zk 33 [zI 4,zI 7]),[]),zp (zm 2 8)]
def k0g:IC:=(.seq qcjq (.seq qcfd .ret))
@[go_sem] def s0g:List (RV×Co):=[(.t 2,.id)]
theorem c0g:cFun Tryz.prog 13 = some (9,k0g,s0g):=by kernel_rfl

def qcf4:IC:=zr [zi 1 (.box (.t 0)),zv 2 (.mov (.c (.str [])))]
def qcjy:IC:=.drw [zp (zv 3 (zl 5 1)),(zi 4 (zk 26 [zA 3]),[]),(zv 5 (zl 5 1),[1]),(zv 6 (.bld [(.int .i64 0),(.int .i64 0),(.int .i64 0),(.str []),.nils] [(0,5,(.t 5))]),[]),(zv 7 (.mki 39 (.t 6) zN),[1]),(zi 8 (zk 33 [zI 4,zI 7]),[]),zp (zm 2 8)]
def k0h:IC:=(.seq qcf4 (.seq qcjy .ret))
@[go_sem] def s0h:List (RV×Co):=[(.t 2,.id)]
theorem c0h:cFun Tryz.prog 15 = some (9,k0h,s0h):=by kernel_rfl

def qci5:IC:=zr [zi 1 (.box (.t 0)),zv 2 (.mov (.c (.str [])))]
def qccx:IC:=.drw [zp (zv 3 (zd 1 0)),zp (zv 4 (zg 1 3)),zp (zv 5 (.bin .neq .no (.t 4) (zc 37))),zp (zm 6 5),zp (zw 6 true 7 (zl 5 1)),(zj 6 true 8 (zk 30 [zA 7]),[]),zp (zv 9 (.pick (.t 6) (.t 8) (.c (.bool false)))),(zv 10 (zl 5 1),[5]),(zv 11 (.bld [(.int .i64 0),(.int .i64 0),(.int .i64 0),(.str []),.nils] [(0,5,(.t 10))]),[]),(zv 12 (.mki 40 (.t 11) zN),[5]),(zi 13 (zk 33 [zI 9,zI 12]),[]),zp (zm 2 13)]
def k0j:IC:=(.seq qci5 (.seq qccx .ret))
@[go_sem] def s0j:List (RV×Co):=[(.t 2,.id)]
theorem c0j:cFun Tryz.prog 17 = some (14,k0j,s0j):=by kernel_rfl

def qcev:IC:=zr [zi 1 (.box (.t 0)),zv 2 (.mov (.c (.str [])))]
def qcix:IC:=zr [zv 3 (zd 1 0),zv 4 (zg 1 3),zv 5 (.bin .neq .no (.t 4) (zc 37)),zm 6 5,zw 6 false 7 (zl 5 1),zj 6 false 8 (zk 30 [zA 7]),zw 6 false 9 (.un .not (.t 8)),zv 10 (.pick (.t 6) (.c (.bool true)) (.t 9))]
def qcc0:IC:=zr [zv 2 (.mov (.c (.str [])))]
def qchw:IC:=zr [zv 11 (zd 1 4),zv 12 (zg 1 11),zi 13 (zk 44 [((.t 12),(.sl 5)),((.c (.str [])),.id),((.c (.fn 45 [] [])),.id)]),zm 2 13]
def k0k:IC:=(.seq qcev (.seq (.seq qcix (.cond (.t 10) (.seq qcc0 .ret) .skip)) (.seq qchw .ret)))
@[go_sem] def s0k:List (RV×Co):=[(.t 2,.id)]
theorem c0k:cFun Tryz.prog 19 = some (14,k0k,s0k):=by kernel_rfl

def qbq8:IC:=zr [zi 1 (.box (.t 0)),zv 2 zf]
def qbwd:IC:=zr [zv 3 (zl 5 1),zi 4 (zk 47 [zA 3]),zm 5 4,zw 5 true 6 (zl 5 1),zj 5 true 7 (zk 48 [zA 6]),zv 8 (.pick (.t 5) (.t 7) (.c (.bool false))),zm 2 8]
def k0bi:IC:=(.seq qbq8 (.seq qbwd .ret))
@[go_sem] def s0bi:List (RV×Co):=[(.t 2,.id)]
theorem c0bi:cFun Tryz.prog 21 = some (9,k0bi,s0bi):=by kernel_rfl

def qb6p:IC:=zr [zi 2 (.box (.t 0)),zi 3 (.box (.t 1)),zv 4 zf]
def qb4v:IC:=zr [zv 6 (zd 2 0),zv 7 (zg 1 6),zv 8 (zd 3 0),zv 9 (zg 1 8),zv 10 (.bin .neq .no (.t 7) (.t 9)),zm 11 10,zw 11 false 12 (zd 2 3),zw 11 false 13 (zg 1 12),zw 11 false 14 (zd 3 3),zw 11 false 15 (zg 1 14),zw 11 false 16 (.bin .neq .no (.t 13) (.t 15)),zv 17 (.pick (.t 11) (.c (.bool true)) (.t 16)),zm 18 17,zw 18 false 19 (zd 2 2),zw 18 false 20 (zg 1 19),zw 18 false 21 (zd 3 2),zw 18 false 22 (zg 1 21),zw 18 false 23 (.bin .neq .no (.t 20) (.t 22)),zv 24 (.pick (.t 18) (.c (.bool true)) (.t 23)),zm 25 24,zw 25 false 26 (zd 2 4),zw 25 false 27 (zg 1 26),zw 25 false 28 (.len false (.t 27)),zw 25 false 29 (zd 3 4),zw 25 false 30 (zg 1 29),zw 25 false 31 (.len false (.t 30)),zw 25 false 32 (.bin .neq .no (.t 28) (.t 31)),zv 33 (.pick (.t 25) (.c (.bool true)) (.t 32))]
def qby2:IC:=zr [zv 4 zf]
def qbvk:IC:=zr [zv 34 (zd 2 4),zv 35 (zg 1 34),zv 36 (.len false (.t 35)),zv 37 (.mov (zc 0))]
def qb6n:IC:=zr [zv 38 (.bin .lss .no (.t 37) (.t 36))]
def qb1s:IC:=zr [zm 39 37,zm 5 39]
def qb0i:IC:=.drw [zp (zv 40 (zd 2 4)),zp (zv 41 (zg 1 40)),zp (zm 42 5),zp (zv 43 (.iad 5 (.t 41) (.t 42))),zp (zv 44 (zl 5 43)),zp (zv 45 (zd 3 4)),zp (zv 46 (zg 1 45)),zp (zm 47 5),zp (zv 48 (.iad 5 (.t 46) (.t 47))),zp (zv 49 (zl 5 48)),(zi 50 (zk 23 [zA 44,zA 49]),[]),zp (zv 51 (.un .not (.t 50)))]
def qcbc:IC:=zr [zv 4 zf]
def qb0j:IC:=zr [zv 52 (.bin .add .no (.t 37) (zc 1)),zm 37 52]
def qb65:IC:=(.seq qb6n (.seq (.cond (.t 38) .skip (.exit 0)) (.seq (.block 1 (.seq qb1s (.seq qb0i (.cond (.t 51) (.seq qcbc .ret) .skip)))) qb0j)))
def qbos:IC:=zr [zv 4 (.mov (.c (.bool true)))]
def k0bz:IC:=(.seq qb6p (.seq (.seq qb4v (.cond (.t 33) (.seq qby2 .ret) .skip)) (.seq (.seq qbvk (.block 0 (.loop qb65))) (.seq qbos .ret))))
@[go_sem] def s0bz:List (RV×Co):=[(.t 4,.id)]
theorem c0bz:cFun Tryz.prog 23 = some (53,k0bz,s0bz):=by kernel_rfl

def qcaw:IC:=zr [zi 1 (.box (.t 0)),zv 2 zf]
def qbw0:IC:=zr [zv 3 (zl 5 1),zi 4 (zk 47 [zA 3]),zm 5 4,zw 5 true 6 (zl 5 1),zj 5 true 7 (zk 51 [zA 6]),zv 8 (.pick (.t 5) (.t 7) (.c (.bool false))),zm 2 8]
def k0bj:IC:=(.seq qcaw (.seq qbw0 .ret))
@[go_sem] def s0bj:List (RV×Co):=[(.t 2,.id)]
theorem c0bj:cFun Tryz.prog 24 = some (9,k0bj,s0bj):=by kernel_rfl

def qbtr:IC:=zr [zi 1 (.box (.t 0)),zv 2 zf]
def qb3w:IC:=zr [zv 3 (zl 5 1),zi 4 (zk 47 [zA 3]),zm 5 4,zw 5 true 6 (zl 5 1),zj 5 true 7 (zk 57 [zA 6]),zv 8 (.pick (.t 5) (.t 7) (.c (.bool false))),zm 2 8]
def k0bk:IC:=(.seq qbtr (.seq qb3w .ret))
@[go_sem] def s0bk:List (RV×Co):=[(.t 2,.id)]
theorem c0bk:cFun Tryz.prog 26 = some (9,k0bk,s0bk):=by kernel_rfl

def qcdz:IC:=zr [zi 2 zaN,zv 3 (.mov (zc 0)),zv 4 (.mov (zc 0))]
def qci7:IC:=zr [zm 5 0,zi 6 (zk 59 [zI 5,((.c (.fn 60 [] [])),.id)]),zv 7 (zx 6 0),zv 8 (zx 6 1),zv 9 (zx 6 2),zn (.st 5 zN (.t 2) (.t 7)),zm 3 8,zm 4 9]
def k0d:IC:=(.seq qcdz (.seq qci7 .ret))
@[go_sem] def s0d:List (RV×Co):=[(.c true 5 2,zN),(.t 3,.id),(.t 4,.id)]
theorem c0d:cFun Tryz.prog 28 = some (10,k0d,s0d):=by kernel_rfl

def qb0w:IC:=zr [zi 2 (.box (.t 0)),zi 3 (.box (.t 1)),zv 4 zf]
def qb90:IC:=zr [zv 6 (zd 2 0),zv 7 (zg 1 6),zv 8 (zd 3 0),zv 9 (zg 1 8),zv 10 (.bin .neq .no (.t 7) (.t 9)),zm 11 10,zw 11 false 12 (zd 2 3),zw 11 false 13 (zg 1 12),zw 11 false 14 (zd 3 3),zw 11 false 15 (zg 1 14),zw 11 false 16 (.bin .neq .no (.t 13) (.t 15)),zv 17 (.pick (.t 11) (.c (.bool true)) (.t 16)),zm 18 17,zw 18 false 19 (zd 2 2),zw 18 false 20 (zg 1 19),zw 18 false 21 (zd 3 2),zw 18 false 22 (zg 1 21),zw 18 false 23 (.bin .neq .no (.t 20) (.t 22)),zv 24 (.pick (.t 18) (.c (.bool true)) (.t 23)),zm 25 24,zw 25 false 26 (zd 2 4),zw 25 false 27 (zg 1 26),zw 25 false 28 (.len false (.t 27)),zw 25 false 29 (zd 3 4),zw 25 false 30 (zg 1 29),zw 25 false 31 (.len false (.t 30)),zw 25 false 32 (.bin .neq .no (.t 28) (.t 31)),zv 33 (.pick (.t 25) (.c (.bool true)) (.t 32))]
def qb2d:IC:=zr [zv 4 zf]
def qb3d:IC:=zr [zv 5 (.mov (zc 0))]
def qb3o:IC:=zr [zm 34 5,zv 35 (zd 2 4),zv 36 (zg 1 35),zv 37 (.len false (.t 36)),zv 38 (.bin .lss .no (.t 34) (.t 37))]
def qbz5:IC:=.drw [zp (zv 41 (zd 2 4)),zp (zv 42 (zg 1 41)),zp (zm 43 5),zp (zv 44 (.iad 5 (.t 42) (.t 43))),zp (zv 45 (zl 5 44)),zp (zv 46 (zd 3 4)),zp (zv 47 (zg 1 46)),zp (zm 48 5),zp (zv 49 (.iad 5 (.t 47) (.t 48))),zp (zv 50 (zl 5 49)),(zi 51 (zk 29 [zA 45,zA 50]),[]),zp (zv 52 (.un .not (.t 51)))]
def qb8f:IC:=zr [zv 4 zf]
def qbq2:IC:=zr [zm 39 5,zv 40 (.bin .add .no (.t 39) (zc 1)),zm 5 40]
def qbrj:IC:=(.seq (.seq qb3o (.cond (.t 38) .skip (.exit 0))) (.seq (.block 1 (.seq qbz5 (.cond (.t 52) (.seq qb8f .ret) .skip))) qbq2))
def qbic:IC:=zr [zv 4 (.mov (.c (.bool true)))]
def k0ca:IC:=(.seq qb0w (.seq (.seq qb90 (.cond (.t 33) (.seq qb2d .ret) .skip)) (.seq (.seq qb3d (.block 0 (.loop qbrj))) (.seq qbic .ret))))
@[go_sem] def s0ca:List (RV×Co):=[(.t 4,.id)]
theorem c0ca:cFun Tryz.prog 29 = some (53,k0ca,s0ca):=by kernel_rfl

def qb9j:IC:=zr [zi 1 (.box (.t 0)),zv 2 zf]
def qbs1:IC:=zr [zv 3 (zd 1 0),zv 4 (zg 1 3),zv 5 (zq (.t 4) (zc 37))]
def qb4k:IC:=zr [zv 6 (zl 5 1),zi 7 (zk 47 [zA 6]),zm 8 7,zw 8 true 9 (zl 5 1),zj 8 true 10 (zk 67 [zA 9]),zv 11 (.pick (.t 8) (.t 10) (.c (.bool false))),zm 12 11,zw 12 true 13 (zd 1 4),zw 12 true 14 (zg 1 13),zj 12 true 15 (zk 68 [((.t 14),(.sl 5)),((.c (.fn 69 [] [])),.id)]),zv 16 (.pick (.t 12) (.t 15) (.c (.bool false))),zm 2 16]
def qb24:IC:=zr [zv 17 (zl 5 1),zi 18 (zk 47 [zA 17]),zm 19 18,zw 19 true 20 (zl 5 1),zj 19 true 21 (zk 69 [zA 20]),zv 22 (.pick (.t 19) (.t 21) (.c (.bool false))),zm 2 22]
def k0bl:IC:=(.seq qb9j (.seq (.seq qbs1 (.cond (.t 5) (.seq qb4k .ret) .skip)) (.seq qb24 .ret)))
@[go_sem] def s0bl:List (RV×Co):=[(.t 2,.id)]
theorem c0bl:cFun Tryz.prog 30 = some (23,k0bl,s0bl):=by kernel_rfl

def qcf7:IC:=zr [zv 4 (.mov (.c (.str [])))]
def qcio:IC:=zr [zm 5 0,zv 6 (.un .not (.t 5))]
def qcf3:IC:=zr [zv 4 (.mov (.c (.str [])))]
def qchk:IC:=zr [zm 7 1,zi 8 (zk 46 [zI 7]),zm 4 8]
def k0e:IC:=(.seq qcf7 (.seq (.seq qcio (.cond (.t 6) (.seq qcf3 .ret) .skip)) (.seq qchk .ret)))
@[go_sem] def s0e:List (RV×Co):=[(.t 4,.id)]
theorem c0e:cFun Tryz.prog 33 = some (9,k0e,s0e):=by kernel_rfl

def qbze:IC:=zr [zi 1 (.box (.t 0)),zv 2 (.mov (.c (.str [])))]
def qb9i:IC:=zr [zv 4 (zd 1 4),zv 5 (zg 1 4),zv 6 (.len false (.t 5)),zv 7 (.bin .sub .no (.t 6) (zc 1)),zm 3 7]
def qbte:IC:=.drw [zp (zv 8 (zd 1 4)),zp (zv 9 (zg 1 8)),zp (zm 10 3),zp (zv 11 (.slv 5 (.t 9) none (some (.t 10)) none)),(zi 12 (zk 74 [((.t 11),(.sl 5))]),[]),zp (zv 13 (zd 1 4)),(zv 14 (zg 1 13),[4]),zp (zm 15 3),zp (zv 16 (.iad 5 (.t 14) (.t 15))),(zv 17 (zl 5 16),[4]),(zv 18 (.bld [(.int .i64 0),(.int .i64 0),(.int .i64 0),(.str []),.nils] [(0,5,(.t 17))]),[]),(zv 19 (.mki 37 (.t 18) zN),[4]),(zi 20 (zk 46 [zI 19]),[]),zp (zv 21 (.bin .add .no (.t 12) (.t 20))),zp (zm 2 21)]
def k0bc:IC:=(.seq qbze (.seq qb9i (.seq qbte .ret)))
@[go_sem] def s0bc:List (RV×Co):=[(.t 2,.id)]
theorem c0bc:cFun Tryz.prog 36 = some (22,k0bc,s0bc):=by kernel_rfl

def qcj6:IC:=zr [zv 6 (.mov (.c (.str [])))]
def qcjj:IC:=zr [zm 10 0,zv 11 (.len false (.t 10)),zi 12 (.mks 1 (.str []) 16 (.t 11) (.t 11)),zm 7 12]
def qcgh:IC:=zr [zm 13 0,zv 14 (.len false (.t 13)),zv 15 (.mov (zc 0))]
def qcgd:IC:=zr [zv 16 (.bin .lss .no (.t 15) (.t 14))]
def qcc6:IC:=zr [zm 17 15,zv 18 (.iad 5 (.t 13) (.t 15)),zv 19 (zl 5 18),zi 9 zaN,zm 8 17,zn (.st 5 zN (.t 9) (.t 19))]
def qcj8:IC:=zr [zm 20 7,zm 21 8,zm 22 2,zv 23 (zl 5 9),zi 24 (.call (.t 22) [zA 23]),zv 25 (.iad 1 (.t 20) (.t 21)),zn (.st 1 .id (.t 25) (.t 24))]
def qcdj:IC:=zr [zv 26 (.bin .add .no (.t 15) (zc 1)),zm 15 26]
def qces:IC:=(.seq qcgd (.seq (.cond (.t 16) .skip (.exit 0)) (.seq (.block 1 (.seq qcc6 qcj8)) qcdj)))
def qcea:IC:=zr [zm 27 7,zm 28 1,zi 29 (zk 83 [((.t 27),(.sl 1)),zI 28]),zm 6 29]
def k0x:IC:=(.seq qcj6 (.seq qcjj (.seq (.seq qcgh (.block 0 (.loop qces))) (.seq qcea .ret))))
@[go_sem] def s0x:List (RV×Co):=[(.t 6,.id)]
theorem c0x:cFun Tryz.prog 44 = some (30,k0x,s0x):=by kernel_rfl

def qcgf:IC:=zr [zi 1 (.box (.t 0)),zv 2 (.mov (.c (.str [])))]
def qcjf:IC:=zr [zv 3 (zl 5 1),zv 4 (.bld [(.int .i64 0),(.int .i64 0),(.int .i64 0),(.str []),.nils] [(0,5,(.t 3))]),zv 5 (.mki 40 (.t 4) zN),zi 6 (zk 46 [zI 5]),zv 7 (.bin .add .no (.t 6) (.c (.str [59,10]))),zm 2 7]
def k0l:IC:=(.seq qcgf (.seq qcjf .ret))
@[go_sem] def s0l:List (RV×Co):=[(.t 2,.id)]
theorem c0l:cFun Tryz.prog 45 = some (8,k0l,s0l):=by kernel_rfl

def qcft:IC:=zr [zv 2 (.mov (.c (.str [])))]
def qcfr:IC:=zr [zm 7 0]
def qcib:IC:=zr [zv 8 (.tya 37 zZ (.t 7)),zv 9 (zx 8 1),zv 10 (zx 8 0)]
def qchu:IC:=zr [zi 3 zaN,zn (.st 5 zN (.t 3) (.t 10))]
def qcfq:IC:=zr [zv 11 (zl 5 3),zi 12 (zk 84 [zA 11]),zm 2 12]
def qchl:IC:=zr [zv 13 (.tya 38 zZ (.t 7)),zv 14 (zx 13 1),zv 15 (zx 13 0)]
def qcgn:IC:=zr [zi 4 zaN,zn (.st 5 zN (.t 4) (.t 15))]
def qciz:IC:=zr [zv 16 (zl 5 4),zi 17 (zk 85 [zA 16]),zm 2 17]
def qch6:IC:=zr [zv 18 (.tya 39 zZ (.t 7)),zv 19 (zx 18 1),zv 20 (zx 18 0)]
def qcj1:IC:=zr [zi 5 zaN,zn (.st 5 zN (.t 5) (.t 20))]
def qbz4:IC:=zr [zv 21 (zl 5 5),zi 22 (zk 86 [zA 21]),zm 2 22]
def qb4l:IC:=zr [zv 23 (.tya 40 zZ (.t 7)),zv 24 (zx 23 1),zv 25 (zx 23 0)]
def qbwu:IC:=zr [zi 6 zaN,zn (.st 5 zN (.t 6) (.t 25))]
def qb0d:IC:=zr [zv 26 (zl 5 6),zi 27 (zk 87 [zA 26]),zm 2 27]
def qb85:IC:=zr [zv 2 (.mov (.c (.str [])))]
def k0p:IC:=(.seq qcft (.seq (.seq qcfr (.block 0 (.seq qcib (.cond (.t 9) (.seq qchu (.seq qcfq .ret)) (.seq qchl (.cond (.t 14) (.seq qcgn (.seq qciz .ret)) (.seq qch6 (.cond (.t 19) (.seq qcj1 (.seq qbz4 .ret)) (.seq qb4l (.cond (.t 24) (.seq qbwu (.seq qb0d .ret)) .skip)))))))))) (.seq qb85 .ret)))
@[go_sem] def s0p:List (RV×Co):=[(.t 2,.id)]
theorem c0p:cFun Tryz.prog 46 = some (28,k0p,s0p):=by kernel_rfl

def qb87:IC:=zr [zi 1 (.box (.t 0)),zi 2 (.alo [(.bool false)])]
def qb7c:IC:=zr [zv 4 (zl 5 1),zi 5 (zk 88 [zA 4,((zc 1),.id)])]
def qb1f:IC:=zr [zm 8 3,zv 9 (.bin .gtr .no (.t 8) (zc 100))]
def qca0:IC:=zr [zn (.st 1 .id (.t 2) (.c (.bool false)))]
def qbex:IC:=(.block 1 (.seq qb1f (.cond (.t 9) (.seq qca0 .ret) .skip)))
def qbfi:IC:=zr [zm 3 6]
def qbx0:IC:=zr [zn (.st 1 .id (.t 2) (.c (.bool true)))]
def k0by:IC:=(.seq qb87 (.seq (.seq qb7c (.block 0 (.rng (.t 5) [6,7] qbfi qbex))) (.seq qbx0 .ret)))
@[go_sem] def s0by:List (RV×Co):=[(.c false 1 2,.id)]
theorem c0by:cFun Tryz.prog 47 = some (10,k0by,s0by):=by kernel_rfl

def qb4e:IC:=zr [zi 1 (.box (.t 0)),zv 2 zf]
def qb4d:IC:=zr [zv 4 (zd 1 0),zv 5 (zg 1 4),zv 6 (zq (.t 5) (zc 1)),zm 3 6]
def qbxa:IC:=zr [zv 7 (zl 5 1),zi 8 (zk 89 [zA 7,((.c (.fn 90 [] [])),.id)]),zm 9 8,zw 9 true 10 (zd 1 4),zw 9 true 11 (zg 1 10),zw 9 true 12 (.len false (.t 11)),zw 9 true 13 (zq (.t 12) (zc 0)),zv 14 (.pick (.t 9) (.t 13) (.c (.bool false))),zm 2 14]
def qcce:IC:=zr [zv 16 (zd 1 0),zv 17 (zg 1 16),zv 18 (.bin .neq .no (.t 17) (zc 2)),zm 19 18,zw 19 false 20 (zd 1 2),zw 19 false 21 (zg 1 20),zw 19 false 22 (.bin .neq .no (.t 21) (zc 0)),zv 23 (.pick (.t 19) (.c (.bool true)) (.t 22)),zm 15 23]
def qb9x:IC:=zr [zv 2 zf]
def qbz6:IC:=zr [zv 25 (zd 1 3),zv 26 (zg 1 25),zv 27 (zq (.t 26) (.c (.str [45,62]))),zm 24 27]
def qbtd:IC:=zr [zv 28 (zd 1 4),zv 29 (zg 1 28),zv 30 (.len false (.t 29)),zv 31 (zq (.t 30) (zc 2)),zm 32 31,zw 32 true 33 (zd 1 4),zw 32 true 34 (zg 1 33),zj 32 true 35 (zk 68 [((.t 34),(.sl 5)),((.c (.fn 48 [] [])),.id)]),zv 36 (.pick (.t 32) (.t 35) (.c (.bool false))),zm 2 36]
def qb19:IC:=zr [zv 37 (zd 1 3),zv 38 (zg 1 37),zi 39 (zk 91 [zI 38]),zm 40 39,zw 40 true 41 (zd 1 4),zw 40 true 42 (zg 1 41),zj 40 true 43 (zk 68 [((.t 42),(.sl 5)),((.c (.fn 48 [] [])),.id)]),zv 44 (.pick (.t 40) (.t 43) (.c (.bool false))),zm 2 44]
def k0bq:IC:=(.seq qb4e (.seq (.block 0 (.seq qb4d (.cond (.t 3) (.seq qbxa .ret) (.seq qcce (.cond (.t 15) (.seq qb9x .ret) (.seq qbz6 (.cond (.t 24) (.seq qbtd .ret) .skip))))))) (.seq qb19 .ret)))
@[go_sem] def s0bq:List (RV×Co):=[(.t 2,.id)]
theorem c0bq:cFun Tryz.prog 48 = some (45,k0bq,s0bq):=by kernel_rfl

def qb6w:IC:=zr [zi 1 (.box (.t 0)),zv 2 zf]
def qbzr:IC:=zr [zv 3 (zd 1 0),zv 4 (zg 1 3)]
def qbw5:IC:=zr [zv 6 (zq (.t 4) (zc 11)),zm 5 6]
def qb8e:IC:=zr [zv 7 (zl 5 1),zi 8 (zk 89 [zA 7,((.c (.fn 90 [] [])),.id)]),zm 9 8,zw 9 true 10 (zd 1 4),zw 9 true 11 (zg 1 10),zw 9 true 12 (.len false (.t 11)),zw 9 true 13 (zq (.t 12) (zc 0)),zv 14 (.pick (.t 9) (.t 13) (.c (.bool false))),zm 2 14]
def qb83:IC:=zr [zv 16 (zq (.t 4) (zc 12)),zm 15 16]
def qb10:IC:=zr [zv 17 (zl 5 1),zi 18 (zk 67 [zA 17]),zm 19 18,zw 19 true 20 (zd 1 4),zw 19 true 21 (zg 1 20),zw 19 true 22 (.len false (.t 21)),zw 19 true 23 (zq (.t 22) (zc 0)),zv 24 (.pick (.t 19) (.t 23) (.c (.bool false))),zm 2 24]
def qbw7:IC:=zr [zv 26 (zq (.t 4) (zc 13)),zm 25 26]
def qb7o:IC:=zr [zv 27 (zd 1 3),zv 28 (zg 1 27),zv 29 (zq (.t 28) (.c (.str []))),zm 30 29,zw 30 true 31 (zd 1 2),zw 30 true 32 (zg 1 31),zw 30 true 33 (.bin .geq .no (.t 32) (zc 0)),zv 34 (.pick (.t 30) (.t 33) (.c (.bool false))),zm 35 34,zw 35 true 36 (zd 1 4),zw 35 true 37 (zg 1 36),zw 35 true 38 (.len false (.t 37)),zw 35 true 39 (zq (.t 38) (zc 0)),zv 40 (.pick (.t 35) (.t 39) (.c (.bool false))),zm 2 40]
def qb5h:IC:=zr [zv 42 (zq (.t 4) (zc 14)),zm 41 42]
def qb2q:IC:=zr [zv 43 (zl 5 1),zi 44 (zk 89 [zA 43,((.c (.fn 91 [] [])),.id)]),zm 45 44,zw 45 true 46 (zd 1 4),zw 45 true 47 (zg 1 46),zj 45 true 48 (zk 68 [((.t 47),(.sl 5)),((.c (.fn 51 [] [])),.id)]),zv 49 (.pick (.t 45) (.t 48) (.c (.bool false))),zm 2 49]
def qblf:IC:=zr [zv 2 zf]
def k0br:IC:=(.seq qb6w (.seq (.seq qbzr (.block 0 (.seq qbw5 (.cond (.t 5) (.seq qb8e .ret) (.seq qb83 (.cond (.t 15) (.seq qb10 .ret) (.seq qbw7 (.cond (.t 25) (.seq qb7o .ret) (.seq qb5h (.cond (.t 41) (.seq qb2q .ret) .skip)))))))))) (.seq qblf .ret)))
@[go_sem] def s0br:List (RV×Co):=[(.t 2,.id)]
theorem c0br:cFun Tryz.prog 51 = some (50,k0br,s0br):=by kernel_rfl

def qbtn:IC:=zr [zi 2 (.alo [.nils]),zi 3 (.alo [(.int .i64 0)]),zi 4 (.alo [(.int .i64 0)])]
def qcay:IC:=zr [zm 8 0,zv 9 (.len true (.t 8)),zv 10 (.bin .gtr .no (.t 9) (zc 1048576))]
def qb3z:IC:=zr [zn (.st 1 (.sl 4) (.t 2) (.c .nils)),zn (.st 1 .id (.t 3) (zc 0)),zn (.st 1 .id (.t 4) (zc 2))]
def qbqw:IC:=zr [zi 5 (.alo [.nils])]
def qb9u:IC:=zr [zm 11 0,zi 12 (zk 94 [zI 11])]
def qb8a:IC:=zr [zm 15 7,zv 16 (.bin .neq .no (.t 15) (zc 0))]
def qb2c:IC:=.drw [zp (zv 17 (zd 6 1)),zp (zv 18 (zg 1 17)),zp (zm 19 7),(zn (.st 1 (.sl 4) (.t 2) (.c .nils)),[1]),(zn (.st 1 .id (.t 3) (.t 18)),[]),(zn (.st 1 .id (.t 4) (.t 19)),[])]
def qby9:IC:=zr [zv 20 (zg 1 5),zv 21 (zl 4 6),zv 22 (.bsl 4 [zI 21]),zi 23 (.app 4 (.agg [(.int .i64 0),(.int .i64 0),(.int .i64 0),(.str [])]) 40 (.sl 4) (.t 20) (.t 22)),zn (.st 1 (.sl 4) (.t 5) (.t 23))]
def q2q:IC:=(.block 1 (.seq (.seq qb8a (.cond (.t 16) (.seq qb2c .ret) .skip)) qby9))
def qwh:IC:=zr [zi 6 zaT,zn (.st 4 .id (.t 6) (.t 13))]
def qw3:IC:=zr [zm 7 14]
def qblz:IC:=zr [zv 24 (zg 1 5),zm 25 0,zv 26 (.len true (.t 25)),zv 27 (.bld [(.int .i64 0),(.int .i64 0),(.int .i64 0),(.str [])] [(0,1,(zc 0)),(1,1,(.t 26))]),zv 28 (.bsl 4 [zI 27]),zi 29 (.app 4 (.agg [(.int .i64 0),(.int .i64 0),(.int .i64 0),(.str [])]) 40 (.sl 4) (.t 24) (.t 28)),zn (.st 1 (.sl 4) (.t 2) (.t 29)),zn (.st 1 .id (.t 3) (zc 0)),zn (.st 1 .id (.t 4) (zc 0))]
def k0cq:IC:=(.seq qbtn (.seq (.seq qcay (.cond (.t 10) (.seq qb3z .ret) .skip)) (.seq qbqw (.seq (.seq qb9u (.block 0 (.rng (.t 12) [13,14] (.seq qwh qw3) q2q))) (.seq qblz .ret)))))
@[go_sem] def s0cq:List (RV×Co):=[(.c false 1 2,(.sl 4)),(.c false 1 3,.id),(.c false 1 4,.id)]
theorem c0cq:cFun Tryz.prog 52 = some (30,k0cq,s0cq):=by kernel_rfl

def qbtm:IC:=zr [zv 2 (.mov (.c .nilp))]
def qb5m:IC:=zr [zv 6 (.bld [.nils,(.int .i64 0),(.int .i64 0),(.int .i64 0),(.str []),(.int .i64 0),(.int .i64 0),(.int .i64 0),(.int .i64 0)] []),zi 7 (.box (.t 6)),zm 3 7]
def qb5l:IC:=zr [zm 8 0,zv 9 (.len false (.t 8)),zv 10 (.mov (zc 0))]
def qb1k:IC:=zr [zv 11 (.bin .lss .no (.t 10) (.t 9))]
def qbub:IC:=zr [zv 12 (.iad 4 (.t 8) (.t 10)),zv 13 (zl 4 12),zi 5 zaT,zn (.st 4 .id (.t 5) (.t 13))]
def qbsm:IC:=zr [zv 14 (zd 5 0),zv 15 (zg 1 14),zv 16 (zq (.t 15) (zc 0))]
def qbul:IC:=zr [zm 17 3,zv 18 (zd 5 1),zv 19 (zg 1 18),zv 20 (.nck (.t 17)),zv 21 (zd 20 1),zv 22 (zd 21 1),zn (.st 1 .id (.t 22) (.t 19))]
def qbx9:IC:=.drw [zp (zm 23 3),zp (zm 24 3),zp (zv 25 (.nck (.t 24))),zp (zv 26 (zd 25 0)),zp (zv 27 (zg 1 26)),zp (zv 28 (zl 4 5)),(zv 29 (.bsl 4 [zI 28]),[]),(zi 30 (.app 4 (.agg [(.int .i64 0),(.int .i64 0),(.int .i64 0),(.str [])]) 40 (.sl 4) (.t 27) (.t 29)),[]),zp (zv 31 (.nck (.t 23))),zp (zv 32 (zd 31 0)),(zn (.st 1 (.sl 4) (.t 32) (.t 30)),[])]
def qbsv:IC:=zr [zv 33 (.bin .add .no (.t 10) (zc 1)),zm 10 33]
def qbtq:IC:=(.seq qb1k (.seq (.cond (.t 11) .skip (.exit 0)) (.seq (.block 1 (.seq qbub (.seq (.seq qbsm (.cond (.t 16) (.seq qbul (.exit 0)) .skip)) qbx9))) qbsv)))
def qbk2:IC:=zr [zm 34 3,zm 2 34]
def k0ed:IC:=(.seq qbtm (.seq qb5m (.seq (.seq qb5l (.block 0 (.loop qbtq))) (.seq qbk2 .ret))))
@[go_sem] def s0ed:List (RV×Co):=[(.t 2,.id)]
theorem c0ed:cFun Tryz.prog 53 = some (35,k0ed,s0ed):=by kernel_rfl

def qbwv:IC:=zr [zi 2 zaN,zv 3 zf]
def qbv7:IC:=zr [zm 8 0,zi 9 (zk 95 [zI 8]),zv 10 (.un .not (.t 9))]
def qbre:IC:=zr [zv 11 (.bld [(.int .i64 0),(.int .i64 0),(.int .i64 0),(.str []),.nils] []),zn (.st 5 zN (.t 2) (.t 11)),zv 3 zf]
def qbwn:IC:=zr [zm 12 0,zi 13 (zk 66 [zI 12]),zv 14 (.fld false 1 0 (.t 13)),zv 15 (zq (.t 14) (zc 2)),zm 4 15]
def qb3s:IC:=zr [zm 17 0,zi 18 (zk 96 [zI 17]),zm 16 18,zv 19 (zx 16 0),zv 20 (zx 16 1),zi 5 zaN,zn (.st 5 zN (.t 5) (.t 19)),zm 6 20]
def qb86:IC:=zr [zm 21 6,zm 22 21,zw 22 true 23 (zo 4),zv 24 (.pick (.t 22) (.t 23) (.c (.bool false))),zm 25 24,zw 25 true 26 (zo 0),zj 25 true 27 (zk 97 [zI 26]),zv 28 (.pick (.t 25) (.t 27) (.c (.bool false)))]
def qcb9:IC:=zr [zi 7 zaN]
def qb3e:IC:=zr [zm 30 0,zi 31 (zk 96 [zI 30]),zm 29 31,zv 32 (zx 29 0),zv 33 (zx 29 1),zn (.st 5 zN (.t 7) (.t 32)),zm 6 33]
def qb0f:IC:=zr [zm 34 6]
def qbmt:IC:=zr [zv 35 (zd 5 4),zv 36 (zg 1 35),zv 37 (zl 5 7),zv 38 (.bsl 5 [zA 37]),zi 39 (.app 5 zZ 64 (.sl 5) (.t 36) (.t 38)),zv 40 (zd 5 4),zn (.st 1 (.sl 5) (.t 40) (.t 39))]
def qb1t:IC:=(.seq (.seq qb86 (.cond (.t 28) .skip (.exit 0))) (.block 1 (.seq qcb9 (.seq qb3e (.seq qb0f (.cond (.t 34) qbmt .skip))))))
def qbka:IC:=zr [zm 41 0,zi 42 (zk 98 [zI 41])]
def qbmm:IC:=zr [zm 43 6,zv 44 (.un .not (.t 43))]
def qbnl:IC:=zr [zv 45 (.bld [(.int .i64 0),(.int .i64 0),(.int .i64 0),(.str []),.nils] []),zn (.st 5 zN (.t 2) (.t 45)),zv 3 zf]
def qbmx:IC:=zr [zv 46 (zl 5 5),zn (.st 5 zN (.t 2) (.t 46)),zv 3 (.mov (.c (.bool true)))]
def k0dt:IC:=(.seq qbwv (.seq (.seq qbv7 (.cond (.t 10) (.seq qbre .ret) .skip)) (.seq qbwn (.seq qb3s (.seq (.block 0 (.loop qb1t)) (.seq qbka (.seq (.seq qbmm (.cond (.t 44) (.seq qbnl .ret) .skip)) (.seq qbmx .ret))))))))
@[go_sem] def s0dt:List (RV×Co):=[(.c true 5 2,zN),(.t 3,.id)]
theorem c0dt:cFun Tryz.prog 54 = some (47,k0dt,s0dt):=by kernel_rfl

def qbq5:IC:=zr [zv 2 (.mov (zc 0)),zv 3 (.mov (zc 0))]
def qbrr:IC:=zr [zm 5 0,zv 6 (.bin .eql .ptr (.t 5) (.c .nilp)),zm 4 6]
def qb6o:IC:=zr [zv 2 (.mov (zc 0)),zv 3 (.mov (zc 1))]
def qbvw:IC:=zr [zm 8 0,zv 9 (.nck (.t 8)),zv 10 (zd 9 7),zv 11 (zg 1 10),zv 12 (.bin .neq .no (.t 11) (zc 0)),zm 7 12]
def qbyv:IC:=.drw [zp (zm 13 0),zp (zv 14 (.nck (.t 13))),zp (zv 15 (zd 14 8)),zp (zv 16 (zg 1 15)),zp (zm 17 0),zp (zv 18 (.nck (.t 17))),zp (zv 19 (zd 18 7)),zp (zv 20 (zg 1 19)),zp (zm 2 16),zp (zm 3 20)]
def qb0s:IC:=.drw [zp (zm 22 0),zp (zv 23 (.nck (.t 22))),zp (zv 24 (zd 23 5)),zp (zv 25 (zg 1 24)),zp (zm 26 0),zp (zv 27 (.nck (.t 26))),zp (zv 28 (zd 27 0)),zp (zv 29 (zg 1 28)),zp (zv 30 (.len false (.t 29))),zp (zv 31 (.bin .lss .no (.t 25) (.t 30))),zp (zm 21 31)]
def qb49:IC:=.drw [zp (zm 32 0),zp (zv 33 (.nck (.t 32))),zp (zv 34 (zd 33 0)),zp (zv 35 (zg 1 34)),zp (zm 36 0),zp (zv 37 (.nck (.t 36))),zp (zv 38 (zd 37 5)),zp (zv 39 (zg 1 38)),zp (zv 40 (.iad 4 (.t 35) (.t 39))),zp (zv 41 (zd 40 1)),zp (zv 42 (zg 1 41)),zp (zm 2 42),zp (zv 3 (.mov (zc 5)))]
def qbwr:IC:=zr [zm 43 0,zv 44 (.nck (.t 43)),zv 45 (zd 44 1),zv 46 (zd 45 1),zv 47 (zg 1 46),zm 2 47,zv 3 (.mov (zc 0))]
def k0eo:IC:=(.seq qbq5 (.seq (.block 0 (.seq qbrr (.cond (.t 4) (.seq qb6o .ret) (.seq qbvw (.cond (.t 7) (.seq qbyv .ret) (.seq qb0s (.cond (.t 21) (.seq qb49 .ret) .skip))))))) (.seq qbwr .ret)))
@[go_sem] def s0eo:List (RV×Co):=[(.t 2,.id),(.t 3,.id)]
theorem c0eo:cFun Tryz.prog 55 = some (48,k0eo,s0eo):=by kernel_rfl

def qb1d:IC:=zr [zi 1 (.box (.t 0)),zv 2 (.mov (zc 0))]
def qb05:IC:=zr [zi 3 (.alo [(.int .i64 0)]),zn (.st 1 .id (.t 3) (zc 0))]
def qcbn:IC:=zr [zv 5 (zl 5 1),zi 6 (zk 88 [zA 5,((zc 1),.id)])]
def qb6c:IC:=zr [zv 9 (zg 1 3),zm 10 4,zv 11 (.mm true (.t 9) (.t 10)),zn (.st 1 .id (.t 3) (.t 11))]
def qbbz:IC:=(.block 1 qb6c)
def qbb8:IC:=zr [zm 4 7]
def qb3c:IC:=zr [zv 12 (zg 1 3),zm 2 12]
def k0ce:IC:=(.seq qb1d (.seq qb05 (.seq (.seq qcbn (.block 0 (.rng (.t 6) [7,8] qbb8 qbbz))) (.seq qb3c .ret))))
@[go_sem] def s0ce:List (RV×Co):=[(.t 2,.id)]
theorem c0ce:cFun Tryz.prog 56 = some (13,k0ce,s0ce):=by kernel_rfl

def qbti:IC:=zr [zi 1 (.box (.t 0)),zv 2 zf]
def qccg:IC:=zr [zv 5 (zd 1 4),zv 6 (zg 1 5),zv 7 (.len false (.t 6)),zm 3 7]
def qccb:IC:=zr [zv 8 (zd 1 0),zv 9 (zg 1 8)]
def qb2w:IC:=zr [zv 11 (zq (.t 9) (zc 21)),zm 10 11]
def qb6z:IC:=zr [zv 12 (zl 5 1),zi 13 (zk 89 [zA 12,((.c (.fn 90 [] [])),.id)]),zm 14 13,zw 14 true 15 (zo 3),zw 14 true 16 (zq (.t 15) (zc 0)),zv 17 (.pick (.t 14) (.t 16) (.c (.bool false))),zm 2 17]
def qb5t:IC:=zr [zv 19 (zq (.t 9) (zc 22)),zm 18 19]
def qbrf:IC:=zr [zv 20 (zl 5 1),zi 21 (zk 89 [zA 20,((.c (.fn 91 [] [])),.id)]),zm 22 21,zw 22 true 23 (zo 3),zw 22 true 24 (zq (.t 23) (zc 0)),zv 25 (.pick (.t 22) (.t 24) (.c (.bool false))),zm 2 25]
def qca5:IC:=zr [zv 27 (zq (.t 9) (zc 23)),zm 26 27]
def qcbd:IC:=zr [zv 28 (zd 1 3),zv 29 (zg 1 28),zv 30 (zq (.t 29) (.c (.str []))),zm 31 30,zw 31 true 32 (zd 1 2),zw 31 true 33 (zg 1 32),zw 31 true 34 (.bin .geq .no (.t 33) (zc 0)),zv 35 (.pick (.t 31) (.t 34) (.c (.bool false))),zm 36 35,zw 36 true 37 (zo 3),zw 36 true 38 (zq (.t 37) (zc 0)),zv 39 (.pick (.t 36) (.t 38) (.c (.bool false))),zm 2 39]
def qbrz:IC:=zr [zv 41 (zq (.t 9) (zc 24)),zm 40 41]
def qbmk:IC:=zr [zv 42 (zl 5 1),zi 43 (zk 67 [zA 42]),zm 44 43,zw 44 true 45 (zo 3),zw 44 true 46 (zq (.t 45) (zc 2)),zv 47 (.pick (.t 44) (.t 46) (.c (.bool false))),zm 48 47,zw 48 true 49 (zd 1 4),zw 48 true 50 (zg 1 49),zj 48 true 51 (zk 68 [((.t 50),(.sl 5)),((.c (.fn 57 [] [])),.id)]),zv 52 (.pick (.t 48) (.t 51) (.c (.bool false))),zm 2 52]
def qbhd:IC:=zr [zv 54 (zq (.t 9) (zc 25)),zm 53 54]
def qbib:IC:=zr [zv 55 (zl 5 1),zi 56 (zk 89 [zA 55,((.c (.fn 90 [] [])),.id)]),zm 57 56,zw 57 true 58 (zo 3),zw 57 true 59 (zq (.t 58) (zc 1)),zv 60 (.pick (.t 57) (.t 59) (.c (.bool false))),zm 61 60,zw 61 true 62 (zd 1 4),zw 61 true 63 (zg 1 62),zw 61 true 64 (.iad 5 (.t 63) (zc 0)),zw 61 true 65 (zl 5 64),zj 61 true 66 (zk 57 [zA 65]),zv 67 (.pick (.t 61) (.t 66) (.c (.bool false))),zm 2 67]
def qbld:IC:=zr [zv 69 (zq (.t 9) (zc 26)),zm 68 69]
def qbly:IC:=zr [zv 4 (.mov (.c (.fn 99 [] [])))]
def qbiw:IC:=zr [zv 70 (zl 5 1),zi 71 (zk 67 [zA 70]),zm 72 71,zw 72 true 73 (zo 3),zw 72 true 74 (.bin .geq .no (.t 73) (zc 2)),zv 75 (.pick (.t 72) (.t 74) (.c (.bool false))),zm 76 75,zw 76 true 77 (zd 1 4),zw 76 true 78 (zg 1 77),zw 76 true 79 (zo 3),zw 76 true 80 (.bin .sub .no (.t 79) (zc 1)),zw 76 true 81 (.slv 5 (.t 78) none (some (.t 80)) none),zw 76 true 82 (zo 4),zj 76 true 83 (zk 68 [((.t 81),(.sl 5)),zI 82]),zv 84 (.pick (.t 76) (.t 83) (.c (.bool false))),zm 85 84,zw 85 true 86 (zd 1 4),zw 85 true 87 (zg 1 86),zw 85 true 88 (zo 3),zw 85 true 89 (.bin .sub .no (.t 88) (zc 1)),zw 85 true 90 (.iad 5 (.t 87) (.t 89)),zw 85 true 91 (zl 5 90),zj 85 true 92 (zk 57 [zA 91]),zv 93 (.pick (.t 85) (.t 92) (.c (.bool false))),zm 2 93]
def qbi0:IC:=zr [zv 95 (zq (.t 9) (zc 27)),zm 94 95]
def qbhi:IC:=zr [zv 96 (zl 5 1),zi 97 (zk 67 [zA 96]),zm 98 97,zw 98 true 99 (zo 3),zw 98 true 100 (.bin .geq .no (.t 99) (zc 2)),zv 101 (.pick (.t 98) (.t 100) (.c (.bool false))),zm 102 101,zw 102 true 103 (zd 1 4),zw 102 true 104 (zg 1 103),zw 102 true 105 (.iad 5 (.t 104) (zc 0)),zw 102 true 106 (zl 5 105),zj 102 true 107 (zk 57 [zA 106]),zv 108 (.pick (.t 102) (.t 107) (.c (.bool false))),zm 109 108,zw 109 true 110 (zd 1 4),zw 109 true 111 (zg 1 110),zw 109 true 112 (.slv 5 (.t 111) (some (zc 1)) none none),zj 109 true 113 (zk 68 [((.t 112),(.sl 5)),((.c (.fn 102 [] [])),.id)]),zv 114 (.pick (.t 109) (.t 113) (.c (.bool false))),zm 2 114]
def qbhl:IC:=zr [zv 116 (zq (.t 9) (zc 28)),zm 115 116]
def qbna:IC:=zr [zv 117 (zl 5 1),zi 118 (zk 67 [zA 117]),zm 119 118,zw 119 true 120 (zo 3),zw 119 true 121 (zq (.t 120) (zc 3)),zv 122 (.pick (.t 119) (.t 121) (.c (.bool false))),zm 123 122,zw 123 true 124 (zd 1 4),zw 123 true 125 (zg 1 124),zj 123 true 126 (zk 68 [((.t 125),(.sl 5)),((.c (.fn 57 [] [])),.id)]),zv 127 (.pick (.t 123) (.t 126) (.c (.bool false))),zm 2 127]
def qbnh:IC:=zr [zv 2 zf]
def k0bn:IC:=(.seq qbti (.seq qccg (.seq (.seq qccb (.block 0 (.seq qb2w (.cond (.t 10) (.seq qb6z .ret) (.seq qb5t (.cond (.t 18) (.seq qbrf .ret) (.seq qca5 (.cond (.t 26) (.seq qcbd .ret) (.seq qbrz (.cond (.t 40) (.seq qbmk .ret) (.seq qbhd (.cond (.t 53) (.seq qbib .ret) (.seq qbld (.cond (.t 68) (.seq qbly (.seq qbiw .ret)) (.seq qbi0 (.cond (.t 94) (.seq qbhi .ret) (.seq qbhl (.cond (.t 115) (.seq qbna .ret) .skip)))))))))))))))))) (.seq qbnh .ret))))
@[go_sem] def s0bn:List (RV×Co):=[(.t 2,.id)]
theorem c0bn:cFun Tryz.prog 57 = some (128,k0bn,s0bn):=by kernel_rfl

def qb3g:IC:=zr [zi 2 zaN,zv 3 zf]
def qb5o:IC:=zr [zm 6 0,zi 7 (zk 95 [zI 6]),zv 8 (.un .not (.t 7))]
def qbx2:IC:=zr [zv 9 (.bld [(.int .i64 0),(.int .i64 0),(.int .i64 0),(.str []),.nils] []),zn (.st 5 zN (.t 2) (.t 9)),zv 3 zf]
def qbvj:IC:=zr [zm 11 0,zi 12 (zk 103 [zI 11]),zm 10 12,zv 13 (zx 10 0),zv 14 (zx 10 1),zi 4 zaN,zn (.st 5 zN (.t 4) (.t 13)),zm 5 14]
def qb7p:IC:=zr [zm 15 0,zi 16 (zk 98 [zI 15])]
def qb2t:IC:=zr [zm 17 5,zv 18 (.un .not (.t 17))]
def qb0e:IC:=zr [zv 19 (.bld [(.int .i64 0),(.int .i64 0),(.int .i64 0),(.str []),.nils] []),zn (.st 5 zN (.t 2) (.t 19)),zv 3 zf]
def qbt2:IC:=zr [zv 20 (zl 5 4),zn (.st 5 zN (.t 2) (.t 20)),zv 3 (.mov (.c (.bool true)))]
def k0dd:IC:=(.seq qb3g (.seq (.seq qb5o (.cond (.t 8) (.seq qbx2 .ret) .skip)) (.seq qbvj (.seq qb7p (.seq (.seq qb2t (.cond (.t 18) (.seq qb0e .ret) .skip)) (.seq qbt2 .ret))))))
@[go_sem] def s0dd:List (RV×Co):=[(.c true 5 2,zN),(.t 3,.id)]
theorem c0dd:cFun Tryz.prog 58 = some (21,k0dd,s0dd):=by kernel_rfl

def qchn:IC:=zr [zi 4 zaN,zv 5 (.mov (zc 0)),zv 6 (.mov (zc 0))]
def qceb:IC:=zr [zm 15 0,zi 16 (zk 52 [zI 15]),zm 14 16,zv 17 (zx 14 0),zv 18 (zx 14 1),zv 19 (zx 14 2),zm 7 17,zm 8 18,zm 9 19]
def qcd1:IC:=zr [zm 20 9,zv 21 (.bin .neq .no (.t 20) (zc 0))]
def qcj4:IC:=zr [zv 22 (.bld [(.int .i64 0),(.int .i64 0),(.int .i64 0),(.str []),.nils] []),zm 23 8,zm 24 9,zn (.st 5 zN (.t 4) (.t 22)),zm 5 23,zm 6 24]
def qcgq:IC:=zr [zm 25 7,zi 26 (zk 53 [((.t 25),(.sl 4))]),zm 10 26]
def qchq:IC:=zr [zm 27 1,zm 28 10,zi 29 (.call (.t 27) [zI 28]),zi 11 zaN,zn (.st 5 zN (.t 11) (.t 29))]
def qche:IC:=zr [zm 31 10,zi 32 (zk 55 [zI 31]),zm 30 32,zv 33 (zx 30 0),zv 34 (zx 30 1),zm 12 33,zm 13 34]
def qcd4:IC:=zr [zm 35 13,zv 36 (.bin .neq .no (.t 35) (zc 0))]
def qckd:IC:=zr [zv 37 (.bld [(.int .i64 0),(.int .i64 0),(.int .i64 0),(.str []),.nils] []),zm 38 12,zm 39 13,zn (.st 5 zN (.t 4) (.t 37)),zm 5 38,zm 6 39]
def qcfo:IC:=zr [zv 40 (zl 5 11),zi 41 (zk 56 [zA 40]),zv 42 (.bin .gtr .no (.t 41) (zc 100))]
def qbux:IC:=.drw [(zv 43 (.bld [(.int .i64 0),(.int .i64 0),(.int .i64 0),(.str []),.nils] []),[]),zp (zv 44 (zd 11 1)),zp (zv 45 (zg 1 44)),(zn (.st 5 zN (.t 4) (.t 43)),[2]),zp (zm 5 45),zp (zv 6 (.mov (zc 2)))]
def qbwx:IC:=zr [zv 46 (zl 5 11),zn (.st 5 zN (.t 4) (.t 46)),zv 5 (.mov (zc 0)),zv 6 (.mov (zc 0))]
def k0c:IC:=(.seq qchn (.seq qceb (.seq (.seq qcd1 (.cond (.t 21) (.seq qcj4 .ret) .skip)) (.seq qcgq (.seq qchq (.seq (.seq qche (.seq qcd4 (.cond (.t 36) (.seq qckd .ret) .skip))) (.seq (.seq qcfo (.cond (.t 42) (.seq qbux .ret) .skip)) (.seq qbwx .ret))))))))
@[go_sem] def s0c:List (RV×Co):=[(.c true 5 4,zN),(.t 5,.id),(.t 6,.id)]
theorem c0c:cFun Tryz.prog 59 = some (47,k0c,s0c):=by kernel_rfl

def qcbp:IC:=zr [zi 1 (.box (.t 0)),zi 2 zaN]
def qcbb:IC:=zr [zv 6 (zg 1 1),zi 7 (zk 61 [zI 6,((.c (.str [59])),.id)]),zi 3 (.alo [.nilf]),zn (.st 1 .id (.t 3) (.t 7))]
def qbvo:IC:=zr [zv 9 (.mfn 63 [] [(.t 1)]),zv 10 (.mfn 65 [] [(.t 1),(.t 3)]),zi 11 (zk 62 [((.c .nils),(.sl 5)),zI 9,zI 10]),zm 8 11,zv 12 (zx 8 0),zv 13 (zx 8 1),zm 4 12,zm 5 13]
def qb13:IC:=zr [zm 14 4,zv 15 (.bld [(.int .i64 0),(.int .i64 0),(.int .i64 0),(.str []),.nils] [(0,1,(zc 37)),(4,1,(.t 14))]),zn (.st 5 zN (.t 2) (.t 15))]
def k0eu:IC:=(.seq qcbp (.seq qcbb (.seq qbvo (.seq qb13 .ret))))
@[go_sem] def s0eu:List (RV×Co):=[(.c true 5 2,zN)]
theorem c0eu:cFun Tryz.prog 60 = some (16,k0eu,s0eu):=by kernel_rfl

def qb6y:IC:=zr [zi 2 (.box (.t 0)),zi 3 (.box (.t 1)),zv 4 (.mov (.c .nilf))]
def qbwg:IC:=zr [zi 5 (.alo [(.bool false)]),zn (.st 1 .id (.t 5) (.c (.bool false)))]
def qb9w:IC:=zr [zv 6 (.mfn 104 [] [(.t 5),(.t 2),(.t 3)]),zm 4 6]
def k0fc:IC:=(.seq qb6y (.seq qbwg (.seq qb9w .ret)))
@[go_sem] def s0fc:List (RV×Co):=[(.t 4,.id)]
theorem c0fc:cFun Tryz.prog 61 = some (7,k0fc,s0fc):=by kernel_rfl

def qbtk:IC:=zr [zv 6 (.mov (.c .nils)),zv 7 zf]
def qbyn:IC:=zr [zm 10 2,zi 11 (.call (.t 10) [])]
def qb1u:IC:=zr [zm 13 1,zi 14 (.call (.t 13) []),zm 12 14,zv 15 (zx 12 0),zv 16 (zx 12 1),zi 8 zaN,zn (.st 5 zN (.t 8) (.t 15)),zm 9 16]
def qb8j:IC:=zr [zm 17 9,zv 18 (.un .not (.t 17))]
def qbrv:IC:=zr [zm 19 0,zm 6 19,zv 7 zf]
def qbsf:IC:=zr [zm 20 0,zv 21 (zl 5 8),zv 22 (.bsl 5 [zA 21]),zi 23 (.app 5 zZ 64 (.sl 5) (.t 20) (.t 22)),zm 0 23]
def qby4:IC:=(.seq (.seq qbyn (.cond (.t 11) .skip (.exit 0))) (.block 1 (.seq qb1u (.seq (.seq qb8j (.cond (.t 18) (.seq qbrv .ret) .skip)) qbsf))))
def qbwm:IC:=zr [zm 24 0,zm 6 24,zv 7 (.mov (.c (.bool true)))]
def k0fk:IC:=(.seq qbtk (.seq (.block 0 (.loop qby4)) (.seq qbwm .ret)))
@[go_sem] def s0fk:List (RV×Co):=[(.t 6,(.sl 5)),(.t 7,.id)]
theorem c0fk:cFun Tryz.prog 62 = some (25,k0fk,s0fk):=by kernel_rfl

def qbqs:IC:=zr [zi 1 zaN,zv 2 zf]
def qbxg:IC:=zr [zv 3 (zg 1 0),zi 4 (zk 64 [zI 3]),zv 5 (zx 4 0),zv 6 (zx 4 1),zn (.st 5 zN (.t 1) (.t 5)),zm 2 6]
def k0es:IC:=(.seq qbqs (.seq qbxg .ret))
@[go_sem] def s0es:List (RV×Co):=[(.c true 5 1,zN),(.t 2,.id)]
theorem c0es:cFun Tryz.prog 63 = some (7,k0es,s0es):=by kernel_rfl

def qbrn:IC:=zr [zi 2 zaN,zv 3 zf]
def qb99:IC:=zr [zm 5 0,zi 6 (zk 66 [zI 5]),zv 7 (.fld false 1 1 (.t 6)),zv 8 (.bld [(.int .i64 0),(.int .i64 0),(.int .i64 0),(.str []),.nils] [(1,1,(.t 7))]),zi 4 zaN,zn (.st 5 zN (.t 4) (.t 8))]
def qb7h:IC:=zr [zm 10 0,zi 11 (zk 105 [zI 10,((.c (.str [100,97,116,97])),.id)]),zm 9 11]
def qb4j:IC:=zr [zm 12 0,zv 13 (zl 5 4),zi 14 (zk 106 [zI 12,zA 13]),zv 15 (zx 14 0),zv 16 (zx 14 1),zn (.st 5 zN (.t 2) (.t 15)),zm 3 16]
def qb97:IC:=zr [zm 18 0,zi 19 (zk 105 [zI 18,((.c (.str [99,108,97,115,115])),.id)]),zm 17 19]
def qca1:IC:=zr [zv 20 (zd 4 0),zn (.st 1 .id (.t 20) (zc 35))]
def qb1y:IC:=zr [zm 21 0,zv 22 (zl 5 4),zi 23 (zk 107 [zI 21,zA 22]),zv 24 (zx 23 0),zv 25 (zx 23 1),zn (.st 5 zN (.t 2) (.t 24)),zm 3 25]
def qb5r:IC:=zr [zm 27 0,zi 28 (zk 105 [zI 27,((.c (.str [105,110,115,116,97,110,99,101])),.id)]),zm 26 28]
def qbt7:IC:=zr [zv 29 (zd 4 0),zn (.st 1 .id (.t 29) (zc 36))]
def qbzk:IC:=zr [zm 30 0,zv 31 (zl 5 4),zi 32 (zk 107 [zI 30,zA 31]),zv 33 (zx 32 0),zv 34 (zx 32 1),zn (.st 5 zN (.t 2) (.t 33)),zm 3 34]
def qbhn:IC:=zr [zm 35 0,zi 36 (zk 108 [zI 35]),zv 37 (zx 36 0),zv 38 (zx 36 1),zn (.st 5 zN (.t 2) (.t 37)),zm 3 38]
def k0er:IC:=(.seq qbrn (.seq qb99 (.seq (.block 0 (.seq qb7h (.cond (.t 9) (.seq qb4j .ret) (.seq qb97 (.cond (.t 17) (.seq qca1 (.seq qb1y .ret)) (.seq qb5r (.cond (.t 26) (.seq qbt7 (.seq qbzk .ret)) .skip))))))) (.seq qbhn .ret))))
@[go_sem] def s0er:List (RV×Co):=[(.c true 5 2,zN),(.t 3,.id)]
theorem c0er:cFun Tryz.prog 64 = some (39,k0er,s0er):=by kernel_rfl

def qb0k:IC:=zr [zv 2 zf]
def qb26:IC:=zr [zv 3 (zg 1 0),zi 4 (zk 66 [zI 3]),zv 5 (.fld false 1 0 (.t 4)),zv 6 (.bin .neq .no (.t 5) (zc 0)),zm 7 6,zw 7 true 8 (zg 1 1),zj 7 true 9 (.call (.t 8) []),zv 10 (.pick (.t 7) (.t 9) (.c (.bool false))),zm 11 10,zw 11 true 12 (zg 1 0),zj 11 true 13 (zk 66 [zI 12]),zw 11 true 14 (.fld false 1 0 (.t 13)),zw 11 true 15 (.bin .neq .no (.t 14) (zc 0)),zv 16 (.pick (.t 11) (.t 15) (.c (.bool false))),zm 2 16]
def k0et:IC:=(.seq qb0k (.seq qb26 .ret))
@[go_sem] def s0et:List (RV×Co):=[(.t 2,.id)]
theorem c0et:cFun Tryz.prog 65 = some (17,k0et,s0et):=by kernel_rfl

def qbyp:IC:=zr [zi 2 zaT]
def qb1r:IC:=zr [zm 4 0,zi 5 (zk 109 [zI 4]),zm 3 5]
def qby7:IC:=zr [zv 6 (.bld [(.int .i64 0),(.int .i64 0),(.int .i64 0),(.str [])] []),zn (.st 4 .id (.t 2) (.t 6))]
def qb40:IC:=.drw [zp (zm 8 0),zp (zv 9 (.nck (.t 8))),zp (zv 10 (zd 9 5)),zp (zv 11 (zg 1 10)),zp (zm 12 0),zp (zv 13 (.nck (.t 12))),zp (zv 14 (zd 13 0)),zp (zv 15 (zg 1 14)),zp (zv 16 (.len false (.t 15))),zp (zv 17 (.bin .lss .no (.t 11) (.t 16))),zp (zm 7 17)]
def qb68:IC:=.drw [zp (zm 18 0),zp (zv 19 (.nck (.t 18))),zp (zv 20 (zd 19 0)),zp (zv 21 (zg 1 20)),zp (zm 22 0),zp (zv 23 (.nck (.t 22))),zp (zv 24 (zd 23 5)),zp (zv 25 (zg 1 24)),zp (zv 26 (.iad 4 (.t 21) (.t 25))),zp (zv 27 (zl 4 26)),(zn (.st 4 .id (.t 2) (.t 27)),[])]
def qby8:IC:=zr [zm 28 0,zv 29 (.nck (.t 28)),zv 30 (zd 29 1),zv 31 (zl 4 30),zn (.st 4 .id (.t 2) (.t 31))]
def k0ef:IC:=(.seq qbyp (.seq (.block 0 (.seq qb1r (.cond (.t 3) (.seq qby7 .ret) (.seq qb40 (.cond (.t 7) (.seq qb68 .ret) .skip))))) (.seq qby8 .ret)))
@[go_sem] def s0ef:List (RV×Co):=[(.c true 4 2,.id)]
theorem c0ef:cFun Tryz.prog 66 = some (32,k0ef,s0ef):=by kernel_rfl

def qcbz:IC:=zr [zi 1 (.box (.t 0)),zv 2 zf]
def qbqu:IC:=zr [zv 3 (zd 1 3),zv 4 (zg 1 3),zv 5 (zq (.t 4) (.c (.str []))),zm 6 5,zw 6 true 7 (zd 1 2),zw 6 true 8 (zg 1 7),zw 6 true 9 (zq (.t 8) (zc 0)),zv 10 (.pick (.t 6) (.t 9) (.c (.bool false))),zm 2 10]
def k0bv:IC:=(.seq qcbz (.seq qbqu .ret))
@[go_sem] def s0bv:List (RV×Co):=[(.t 2,.id)]
theorem c0bv:cFun Tryz.prog 67 = some (11,k0bv,s0bv):=by kernel_rfl

def qcak:IC:=zr [zv 4 zf]
def qb48:IC:=zr [zm 7 0,zv 8 (.len false (.t 7)),zv 9 (.mov (zc 0))]
def qb0t:IC:=zr [zv 10 (.bin .lss .no (.t 9) (.t 8))]
def qbta:IC:=zr [zv 11 (.iad 5 (.t 7) (.t 9)),zv 12 (zl 5 11),zi 6 zaN,zn (.st 5 zN (.t 6) (.t 12))]
def qbs5:IC:=zr [zm 13 1,zv 14 (zl 5 6),zi 15 (.call (.t 13) [zA 14]),zv 16 (.un .not (.t 15))]
def qbzw:IC:=zr [zv 4 zf]
def qb5g:IC:=zr [zv 17 (.bin .add .no (.t 9) (zc 1)),zm 9 17]
def qbzb:IC:=(.seq qb0t (.seq (.cond (.t 10) .skip (.exit 0)) (.seq (.block 1 (.seq qbta (.seq qbs5 (.cond (.t 16) (.seq qbzw .ret) .skip)))) qb5g)))
def qb47:IC:=zr [zv 4 (.mov (.c (.bool true)))]
def k0bx:IC:=(.seq qcak (.seq (.seq qb48 (.block 0 (.loop qbzb))) (.seq qb47 .ret)))
@[go_sem] def s0bx:List (RV×Co):=[(.t 4,.id)]
theorem c0bx:cFun Tryz.prog 68 = some (18,k0bx,s0bx):=by kernel_rfl

def qccm:IC:=zr [zi 1 (.box (.t 0)),zv 2 zf]
def qb1l:IC:=zr [zv 6 (zd 1 0),zv 7 (zg 1 6)]
def qb8o:IC:=zr [zv 9 (zq (.t 7) (zc 31)),zm 8 9]
def qbtj:IC:=zr [zv 10 (zl 5 1),zi 11 (zk 100 [zA 10]),zm 2 11]
def qcbr:IC:=zr [zv 13 (zq (.t 7) (zc 32)),zm 12 13]
def qb35:IC:=zr [zv 14 (zl 5 1),zi 15 (zk 101 [zA 14]),zm 2 15]
def qb9f:IC:=zr [zv 16 (zd 1 3),zv 17 (zg 1 16),zi 18 (zk 91 [zI 17]),zv 19 (.un .not (.t 18)),zm 20 19,zw 20 false 21 (zd 1 2),zw 20 false 22 (zg 1 21),zw 20 false 23 (.bin .lss .no (.t 22) (zc 0)),zv 24 (.pick (.t 20) (.c (.bool true)) (.t 23)),zm 25 24,zw 25 false 26 (zd 1 2),zw 25 false 27 (zg 1 26),zw 25 false 28 (zd 1 4),zw 25 false 29 (zg 1 28),zw 25 false 30 (.len false (.t 29)),zw 25 false 31 (.bin .geq .no (.t 27) (.t 30)),zv 32 (.pick (.t 25) (.c (.bool true)) (.t 31))]
def qbut:IC:=zr [zv 2 zf]
def qb2j:IC:=.drw [zp (zv 33 (zd 1 4)),zp (zv 34 (zg 1 33)),zp (zv 35 (zd 1 2)),zp (zv 36 (zg 1 35)),zp (zv 37 (.slv 5 (.t 34) none (some (.t 36)) none)),zp (zv 38 (zd 1 4)),zp (zv 39 (zg 1 38)),zp (zv 40 (zd 1 2)),zp (zv 41 (zg 1 40)),zp (zv 42 (.iad 5 (.t 39) (.t 41))),zp (zv 43 (zl 5 42)),zp (zv 44 (zd 1 4)),zp (zv 45 (zg 1 44)),zp (zv 46 (zd 1 2)),zp (zv 47 (zg 1 46)),zp (zv 48 (.bin .add .no (.t 47) (zc 1))),zp (zv 49 (.slv 5 (.t 45) (some (.t 48)) none none)),(zi 4 zaN,[1,3,4,6,8,10,12,14,16]),zp (zm 3 37),(zn (.st 5 zN (.t 4) (.t 43)),[12,14,16]),zp (zm 5 49)]
def qbqj:IC:=zr [zv 50 (zd 1 0),zv 51 (zg 1 50)]
def qbk9:IC:=zr [zv 53 (zq (.t 51) (zc 33)),zm 52 53]
def qbod:IC:=zr [zm 54 3,zi 55 (zk 68 [((.t 54),(.sl 5)),((.c (.fn 110 [] [])),.id)]),zm 56 55,zw 56 true 57 (zl 5 4),zj 56 true 58 (zk 111 [zA 57]),zv 59 (.pick (.t 56) (.t 58) (.c (.bool false))),zm 60 59,zw 60 true 61 (zo 5),zj 60 true 62 (zk 68 [((.t 61),(.sl 5)),((.c (.fn 111 [] [])),.id)]),zv 63 (.pick (.t 60) (.t 62) (.c (.bool false))),zm 2 63]
def qbjx:IC:=zr [zv 65 (zq (.t 51) (zc 35)),zm 64 65]
def qbim:IC:=zr [zm 66 3,zi 67 (zk 68 [((.t 66),(.sl 5)),((.c (.fn 112 [] [])),.id)]),zm 68 67,zw 68 true 69 (zl 5 4),zj 68 true 70 (zk 110 [zA 69]),zv 71 (.pick (.t 68) (.t 70) (.c (.bool false))),zm 72 71,zw 72 true 73 (zo 5),zj 72 true 74 (zk 68 [((.t 73),(.sl 5)),((.c (.fn 101 [] [])),.id)]),zv 75 (.pick (.t 72) (.t 74) (.c (.bool false))),zm 2 75]
def qbnd:IC:=zr [zv 77 (zq (.t 51) (zc 36)),zm 76 77]
def qbmo:IC:=zr [zm 78 3,zi 79 (zk 68 [((.t 78),(.sl 5)),((.c (.fn 112 [] [])),.id)]),zm 80 79,zw 80 true 81 (zl 5 4),zj 80 true 82 (zk 48 [zA 81]),zv 83 (.pick (.t 80) (.t 82) (.c (.bool false))),zm 84 83,zw 84 true 85 (zo 5),zj 84 true 86 (zk 68 [((.t 85),(.sl 5)),((.c (.fn 100 [] [])),.id)]),zv 87 (.pick (.t 84) (.t 86) (.c (.bool false))),zm 2 87]
def qbg3:IC:=zr [zv 2 zf]
def k0bh:IC:=(.seq qccm (.seq (.seq qb1l (.block 0 (.seq qb8o (.cond (.t 8) (.seq qbtj .ret) (.seq qcbr (.cond (.t 12) (.seq qb35 .ret) .skip)))))) (.seq (.seq qb9f (.cond (.t 32) (.seq qbut .ret) .skip)) (.seq qb2j (.seq (.seq qbqj (.block 1 (.seq qbk9 (.cond (.t 52) (.seq qbod .ret) (.seq qbjx (.cond (.t 64) (.seq qbim .ret) (.seq qbnd (.cond (.t 76) (.seq qbmo .ret) .skip)))))))) (.seq qbg3 .ret))))))
@[go_sem] def s0bh:List (RV×Co):=[(.t 2,.id)]
theorem c0bh:cFun Tryz.prog 69 = some (88,k0bh,s0bh):=by kernel_rfl

def qbyb:IC:=zr [zv 2 (.mov (.c (.str [])))]
def qbyg:IC:=zr [zm 4 0,zi 5 (zk 44 [((.t 4),(.sl 5)),((.c (.str [44,32])),.id),((.c (.fn 118 [] [])),.id)]),zm 3 5]
def qb8g:IC:=zr [zm 6 0,zv 7 (.len false (.t 6))]
def qb42:IC:=zr [zv 9 (zq (.t 7) (zc 0)),zm 8 9]
def qbyt:IC:=zr [zv 2 (.mov (.c (.str [])))]
def qbym:IC:=zr [zv 11 (zq (.t 7) (zc 1)),zm 10 11]
def qbrk:IC:=zr [zm 12 3,zv 13 (.bin .add .no (.t 12) (.c (.str [32,61,62,32]))),zm 2 13]
def qbvb:IC:=zr [zm 14 3,zv 15 (.bin .add .no (.c (.str [40])) (.t 14)),zv 16 (.bin .add .no (.t 15) (.c (.str [41,32,61,62,32]))),zm 2 16]
def k0bb:IC:=(.seq qbyb (.seq qbyg (.seq (.seq qb8g (.block 0 (.seq qb42 (.cond (.t 8) (.seq qbyt .ret) (.seq qbym (.cond (.t 10) (.seq qbrk .ret) .skip)))))) (.seq qbvb .ret))))
@[go_sem] def s0bb:List (RV×Co):=[(.t 2,.id)]
theorem c0bb:cFun Tryz.prog 74 = some (17,k0bb,s0bb):=by kernel_rfl

def qb0a:IC:=zr [zv 2 (.mov (.c (.str [])))]
def qbq9:IC:=zr [zm 5 0,zi 6 (zk 124 [zI 5]),zm 3 6]
def qbqk:IC:=zr [zv 4 (.mov (.c (.str [])))]
def qb5z:IC:=zr [zm 7 3,zv 8 (.bin .gtr .no (.t 7) (.c (.int .u64 9)))]
def qbxl:IC:=zr [zm 9 3,zv 10 (.bin .rem .no (.t 9) (.c (.int .u64 10))),zv 11 (.bin .add .no (.c (.int .u64 48)) (.t 10)),zv 12 (.cvi .u8 (.t 11)),zv 13 (.bsl 1 [zI 12]),zv 14 (.cbs (.t 13)),zm 15 4,zv 16 (.bin .add .no (.t 14) (.t 15)),zm 4 16]
def qbt8:IC:=zr [zm 17 3,zv 18 (.bin .quo .no (.t 17) (.c (.int .u64 10))),zm 3 18]
def qbs8:IC:=(.seq (.seq qb5z (.cond (.t 8) .skip (.exit 0))) (.block 1 (.seq qbxl qbt8)))
def qbr3:IC:=zr [zm 19 3,zv 20 (.bin .add .no (.c (.int .u64 48)) (.t 19)),zv 21 (.cvi .u8 (.t 20)),zv 22 (.bsl 1 [zI 21]),zv 23 (.cbs (.t 22)),zm 24 4,zv 25 (.bin .add .no (.t 23) (.t 24)),zm 4 25]
def qcad:IC:=zr [zm 26 0,zv 27 (.bin .lss .no (.t 26) (zc 0))]
def qbi7:IC:=zr [zm 28 4,zv 29 (.bin .add .no (.c (.str [45])) (.t 28)),zm 2 29]
def qbmh:IC:=zr [zm 30 4,zm 2 30]
def k0cm:IC:=(.seq qb0a (.seq qbq9 (.seq qbqk (.seq (.block 0 (.loop qbs8)) (.seq qbr3 (.seq (.seq qcad (.cond (.t 27) (.seq qbi7 .ret) .skip)) (.seq qbmh .ret)))))))
@[go_sem] def s0cm:List (RV×Co):=[(.t 2,.id)]
theorem c0cm:cFun Tryz.prog 78 = some (31,k0cm,s0cm):=by kernel_rfl

def qcdx:IC:=zr [zi 1 (.box (.t 0)),zv 2 (.mov (.c (.str [])))]
def qcey:IC:=zr [zv 4 (zd 1 0),zv 5 (zl 5 4),zi 3 zaN,zn (.st 5 zN (.t 3) (.t 5))]
def qch2:IC:=zr [zv 6 (zd 3 0),zv 7 (zg 1 6),zv 8 (.bin .neq .no (.t 7) (zc 1)),zm 9 8,zw 9 true 10 (zd 3 3),zw 9 true 11 (zg 1 10),zw 9 true 12 (zq (.t 11) (.c (.str [45,62]))),zv 13 (.pick (.t 9) (.t 12) (.c (.bool false)))]
def qchj:IC:=.drw [zp (zv 14 (zd 3 4)),zp (zv 15 (zg 1 14)),zp (zv 16 (.iad 5 (.t 15) (zc 0))),zp (zv 17 (zl 5 16)),(zv 18 (.bld [(.int .i64 0),(.int .i64 0),(.int .i64 0),(.str []),.nils] [(0,5,(.t 17))]),[]),(zv 19 (.mki 37 (.t 18) zN),[]),zp (zv 20 (zd 3 4)),zp (zv 21 (zg 1 20)),zp (zv 22 (.iad 5 (.t 21) (zc 0))),zp (zv 23 (zd 22 3)),zp (zv 24 (zg 1 23)),(zv 25 (.bin .neq .no (.t 24) (.c (.str [45,62]))),[]),(zi 26 (zk 131 [zI 19,zI 25]),[]),(zv 27 (.bin .add .no (.t 26) (.c (.str [32,45,62,32]))),[]),zp (zv 28 (zd 3 4)),(zv 29 (zg 1 28),[12]),zp (zv 30 (.iad 5 (.t 29) (zc 1))),(zv 31 (zl 5 30),[12]),(zv 32 (.bld [(.int .i64 0),(.int .i64 0),(.int .i64 0),(.str []),.nils] [(0,5,(.t 31))]),[]),(zv 33 (.mki 37 (.t 32) zN),[12]),(zi 34 (zk 46 [zI 33]),[]),zp (zv 35 (.bin .add .no (.t 27) (.t 34))),zp (zm 2 35)]
def qcdw:IC:=.drw [zp (zv 36 (zd 3 3)),zp (zv 37 (zg 1 36)),zp (zv 38 (zd 3 4)),zp (zv 39 (zg 1 38)),(zi 40 (zk 44 [((.t 39),(.sl 5)),((.c (.str [])),.id),((.c (.fn 119 [] [])),.id)]),[1]),zp (zv 41 (.bin .add .no (.t 37) (.t 40))),zp (zm 2 41)]
def k0z:IC:=(.seq qcdx (.seq qcey (.seq (.seq qch2 (.cond (.t 13) (.seq qchj .ret) .skip)) (.seq qcdw .ret))))
@[go_sem] def s0z:List (RV×Co):=[(.t 2,.id)]
theorem c0z:cFun Tryz.prog 84 = some (42,k0z,s0z):=by kernel_rfl

def qb8v:IC:=zr [zi 1 (.box (.t 0)),zv 2 (.mov (.c (.str [])))]
def qbz9:IC:=zr [zv 3 (zd 1 0),zv 4 (zd 3 0),zv 5 (zg 1 4)]
def qb8h:IC:=zr [zv 7 (zq (.t 5) (zc 12)),zm 6 7]
def qb7l:IC:=zr [zv 2 (.mov (.c (.str [95])))]
def qcbh:IC:=zr [zv 9 (zq (.t 5) (zc 13)),zm 8 9]
def qbwh:IC:=zr [zv 10 (zd 1 0),zv 11 (zd 10 2),zv 12 (zg 1 11),zi 13 (zk 132 [zI 12]),zm 2 13]
def qbxp:IC:=.drw [zp (zv 14 (zd 1 0)),zp (zv 15 (zd 14 3)),zp (zv 16 (zg 1 15)),zp (zv 17 (zd 1 0)),zp (zv 18 (zd 17 4)),zp (zv 19 (zg 1 18)),(zi 20 (zk 44 [((.t 19),(.sl 5)),((.c (.str [])),.id),((.c (.fn 133 [] [])),.id)]),[2]),zp (zv 21 (.bin .add .no (.t 16) (.t 20))),zp (zm 2 21)]
def k0be:IC:=(.seq qb8v (.seq (.seq qbz9 (.block 0 (.seq qb8h (.cond (.t 6) (.seq qb7l .ret) (.seq qcbh (.cond (.t 8) (.seq qbwh .ret) .skip)))))) (.seq qbxp .ret)))
@[go_sem] def s0be:List (RV×Co):=[(.t 2,.id)]
theorem c0be:cFun Tryz.prog 85 = some (22,k0be,s0be):=by kernel_rfl

def qch3:IC:=zr [zi 1 (.box (.t 0)),zv 2 (.mov (.c (.str [])))]
def qcds:IC:=.drw [zp (zv 8 (zd 1 0)),zp (zv 9 (zl 5 8)),zp (zv 10 (zd 1 0)),zp (zv 11 (zd 10 4)),zp (zv 12 (zg 1 11)),zp (zv 13 (.len false (.t 12))),zp (zv 14 (.bin .sub .no (.t 13) (zc 1))),(zi 3 zaN,[1,4]),(zn (.st 5 zN (.t 3) (.t 9)),[4]),zp (zm 4 14)]
def qcez:IC:=zr [zv 15 (.mfn 135 [] [(.t 3)]),zm 5 15]
def qcen:IC:=zr [zv 16 (zd 3 0),zv 17 (zg 1 16)]
def qcjr:IC:=zr [zv 19 (zq (.t 17) (zc 23)),zm 18 19]
def qcdf:IC:=zr [zv 20 (zd 3 2),zv 21 (zg 1 20),zi 22 (zk 132 [zI 21]),zm 2 22]
def qcgj:IC:=zr [zv 24 (zq (.t 17) (zc 24)),zm 23 24]
def qzb:IC:=.drw [zp (zv 25 (zd 3 4)),zp (zv 26 (zg 1 25)),zp (zv 27 (.iad 5 (.t 26) (zc 0))),zp (zv 28 (zl 5 27)),zp (zv 29 (zd 3 4)),zp (zv 30 (zg 1 29)),zp (zv 31 (.iad 5 (.t 30) (zc 1))),zp (zv 32 (zl 5 31)),(zi 6 zaN,[1,3,5,7]),(zi 7 zaN,[1,3,5,7,8]),(zn (.st 5 zN (.t 6) (.t 28)),[5,7]),(zn (.st 5 zN (.t 7) (.t 32)),[])]
def qccs:IC:=.drw [zp (zv 33 (zl 5 6)),(zv 34 (.bld [(.int .i64 0),(.int .i64 0),(.int .i64 0),(.str []),.nils] [(0,5,(.t 33))]),[]),(zv 35 (.mki 39 (.t 34) zN),[]),zp (zv 36 (zl 5 6)),(zi 37 (zk 134 [zA 36]),[0,2]),zp (zm 38 37),zp (zw 38 false 39 (zd 6 0)),zp (zw 38 false 40 (zg 1 39)),zp (zw 38 false 41 (zq (.t 40) (zc 24))),zp (zv 42 (.pick (.t 38) (.c (.bool true)) (.t 41))),(zi 43 (zk 131 [zI 35,zI 42]),[]),(zv 44 (.bin .add .no (.t 43) (.c (.str [32]))),[]),(zv 45 (zl 5 7),[4,10]),(zv 46 (.bld [(.int .i64 0),(.int .i64 0),(.int .i64 0),(.str []),.nils] [(0,5,(.t 45))]),[]),(zv 47 (.mki 39 (.t 46) zN),[4,10]),(zv 48 (zl 5 7),[4,10]),(zi 49 (zk 134 [zA 48]),[12,14]),(zi 50 (zk 131 [zI 47,zI 49]),[]),zp (zv 51 (.bin .add .no (.t 44) (.t 50))),zp (zm 2 51)]
def qcjx:IC:=zr [zv 53 (zq (.t 17) (zc 25)),zm 52 53]
def qbr0:IC:=.drw [zp (zv 54 (zd 3 3)),zp (zv 55 (zg 1 54)),(zv 56 (.bin .add .no (.c (.str [92,32])) (.t 55)),[]),(zv 57 (.bin .add .no (.t 56) (.c (.str [32,45,62,32]))),[]),zp (zm 58 5),(zi 59 (.call (.t 58) [((zc 0),.id)]),[1]),zp (zv 60 (.bin .add .no (.t 57) (.t 59))),zp (zm 2 60)]
def qb7f:IC:=zr [zv 62 (zq (.t 17) (zc 26)),zm 61 62]
def qb8w:IC:=zr [zv 63 (zd 3 4),zv 64 (zg 1 63),zm 65 4,zv 66 (.slv 5 (.t 64) none (some (.t 65)) none),zi 67 (zk 136 [((.t 66),(.sl 5))]),zv 68 (.bin .add .no (.c (.str [108,101,116,32])) (.t 67)),zv 69 (.bin .add .no (.t 68) (.c (.str [32,105,110,32]))),zm 70 5,zm 71 4,zi 72 (.call (.t 70) [zI 71]),zv 73 (.bin .add .no (.t 69) (.t 72)),zm 2 73]
def qbxk:IC:=zr [zv 75 (zq (.t 17) (zc 27)),zm 74 75]
def qb8p:IC:=.drw [zp (zm 76 5),(zi 77 (.call (.t 76) [((zc 0),.id)]),[]),(zv 78 (.bin .add .no (.c (.str [99,97,115,101,32])) (.t 77)),[]),(zv 79 (.bin .add .no (.t 78) (.c (.str [32,111,102,32]))),[]),zp (zv 80 (zd 3 4)),(zv 81 (zg 1 80),[1]),(zv 82 (.slv 5 (.t 81) (some (zc 1)) none none),[1]),(zi 83 (zk 44 [((.t 82),(.sl 5)),((.c (.str [59,32])),.id),((.c (.fn 138 [] [])),.id)]),[]),(zi 84 (zk 137 [zI 83]),[]),zp (zv 85 (.bin .add .no (.t 79) (.t 84))),zp (zm 2 85)]
def qbvt:IC:=zr [zv 87 (zq (.t 17) (zc 28)),zm 86 87]
def qb7i:IC:=zr [zm 88 5,zi 89 (.call (.t 88) [((zc 0),.id)]),zv 90 (.bin .add .no (.c (.str [105,102,32])) (.t 89)),zv 91 (.bin .add .no (.t 90) (.c (.str [32,116,104,101,110,32]))),zm 92 5,zi 93 (.call (.t 92) [((zc 1),.id)]),zv 94 (.bin .add .no (.t 91) (.t 93)),zv 95 (.bin .add .no (.t 94) (.c (.str [32,101,108,115,101,32]))),zm 96 5,zi 97 (.call (.t 96) [((zc 2),.id)]),zv 98 (.bin .add .no (.t 95) (.t 97)),zm 2 98]
def qbvz:IC:=zr [zv 99 (zd 3 3),zv 100 (zg 1 99),zm 2 100]
def k0o:IC:=(.seq qch3 (.seq qcds (.seq qcez (.seq (.seq qcen (.block 0 (.seq qcjr (.cond (.t 18) (.seq qcdf .ret) (.seq qcgj (.cond (.t 23) (.seq qzb (.seq qccs .ret)) (.seq qcjx (.cond (.t 52) (.seq qbr0 .ret) (.seq qb7f (.cond (.t 61) (.seq qb8w .ret) (.seq qbxk (.cond (.t 74) (.seq qb8p .ret) (.seq qbvt (.cond (.t 86) (.seq qb7i .ret) .skip)))))))))))))) (.seq qbvz .ret)))))
@[go_sem] def s0o:List (RV×Co):=[(.t 2,.id)]
theorem c0o:cFun Tryz.prog 86 = some (101,k0o,s0o):=by kernel_rfl

def qcjk:IC:=zr [zi 1 (.box (.t 0)),zv 2 (.mov (.c (.str [])))]
def qcil:IC:=zr [zv 7 (zd 1 0),zv 8 (zl 5 7),zi 3 zaN,zn (.st 5 zN (.t 3) (.t 8))]
def qceo:IC:=zr [zv 9 (zd 3 0),zv 10 (zg 1 9)]
def qcgo:IC:=zr [zv 12 (zq (.t 10) (zc 31)),zm 11 12]
def qch8:IC:=.drw [zp (zv 13 (zd 3 3)),zp (zv 14 (zg 1 13)),(zv 15 (.bin .add .no (.t 14) (.c (.str [32,61,32]))),[]),zp (zv 16 (zd 3 4)),zp (zv 17 (zg 1 16)),zp (zv 18 (.iad 5 (.t 17) (zc 0))),zp (zv 19 (zl 5 18)),(zv 20 (.bld [(.int .i64 0),(.int .i64 0),(.int .i64 0),(.str []),.nils] [(0,5,(.t 19))]),[]),(zv 21 (.mki 39 (.t 20) zN),[]),(zi 22 (zk 46 [zI 21]),[1]),zp (zv 23 (.bin .add .no (.t 15) (.t 22))),zp (zm 2 23)]
def qcd0:IC:=zr [zv 25 (zq (.t 10) (zc 32)),zm 24 25]
def qcfm:IC:=.drw [zp (zv 26 (zd 3 3)),zp (zv 27 (zg 1 26)),(zv 28 (.bin .add .no (.t 27) (.c (.str [32,58,58,32]))),[]),zp (zv 29 (zd 3 4)),zp (zv 30 (zg 1 29)),zp (zv 31 (.iad 5 (.t 30) (zc 0))),zp (zv 32 (zl 5 31)),(zi 33 (zk 36 [zA 32]),[1]),zp (zv 34 (.bin .add .no (.t 28) (.t 33))),zp (zm 2 34)]
def qcdy:IC:=.drw [zp (zv 35 (zd 3 4)),zp (zv 36 (zg 1 35)),zp (zv 37 (zd 3 2)),zp (zv 38 (zg 1 37)),zp (zv 39 (.slv 5 (.t 36) none (some (.t 38)) none)),zp (zv 40 (zd 3 4)),zp (zv 41 (zg 1 40)),zp (zv 42 (zd 3 2)),zp (zv 43 (zg 1 42)),zp (zv 44 (.slv 5 (.t 41) (some (.t 43)) none none)),zp (zm 4 39),zp (zm 5 44)]
def qcc5:IC:=zr [zv 45 (zd 3 0),zv 46 (zg 1 45)]
def qcgs:IC:=zr [zv 48 (zq (.t 46) (zc 33)),zm 47 48]
def qbwi:IC:=zr [zm 49 5,zi 50 (zk 44 [((.t 49),(.sl 5)),((.c (.str [32,124,32])),.id),((.c (.fn 139 [] [])),.id)]),zm 6 50]
def qbs6:IC:=.drw [zp (zv 51 (zd 3 3)),zp (zv 52 (zg 1 51)),(zv 53 (.bin .add .no (.c (.str [100,97,116,97,32])) (.t 52)),[]),zp (zm 54 4),(zi 55 (zk 44 [((.t 54),(.sl 5)),((.c (.str [])),.id),((.c (.fn 119 [] [])),.id)]),[1]),zp (zv 56 (.bin .add .no (.t 53) (.t 55))),(zv 57 (.bin .add .no (.t 56) (.c (.str [32,61,32]))),[]),zp (zm 58 6),zp (zv 59 (.bin .add .no (.t 57) (.t 58))),zp (zm 2 59)]
def qbr7:IC:=zr [zv 61 (zq (.t 46) (zc 35)),zm 60 61]
def qbu5:IC:=.drw [zp (zm 62 4),(zi 63 (zk 74 [((.t 62),(.sl 5))]),[]),(zv 64 (.bin .add .no (.c (.str [99,108,97,115,115,32])) (.t 63)),[]),zp (zv 65 (zd 3 3)),(zv 66 (zg 1 65),[1]),zp (zv 67 (.bin .add .no (.t 64) (.t 66))),zp (zm 68 5),zp (zv 69 (.iad 5 (.t 68) (zc 0))),(zv 70 (zl 5 69),[1]),(zi 71 (zk 119 [zA 70]),[4]),zp (zv 72 (.bin .add .no (.t 67) (.t 71))),(zv 73 (.bin .add .no (.t 72) (.c (.str [32,119,104,101,114,101,32]))),[]),zp (zm 74 5),(zv 75 (.slv 5 (.t 74) (some (zc 1)) none none),[1,9]),(zi 76 (zk 136 [((.t 75),(.sl 5))]),[4]),zp (zv 77 (.bin .add .no (.t 73) (.t 76))),zp (zm 2 77)]
def qb9n:IC:=.drw [zp (zm 78 4),(zi 79 (zk 74 [((.t 78),(.sl 5))]),[]),(zv 80 (.bin .add .no (.c (.str [105,110,115,116,97,110,99,101,32])) (.t 79)),[]),zp (zv 81 (zd 3 3)),(zv 82 (zg 1 81),[1]),zp (zv 83 (.bin .add .no (.t 80) (.t 82))),zp (zm 84 5),zp (zv 85 (.iad 5 (.t 84) (zc 0))),(zv 86 (zl 5 85),[1]),(zi 87 (zk 119 [zA 86]),[4]),zp (zv 88 (.bin .add .no (.t 83) (.t 87))),(zv 89 (.bin .add .no (.t 88) (.c (.str [32,119,104,101,114,101,32]))),[]),zp (zm 90 5),(zv 91 (.slv 5 (.t 90) (some (zc 1)) none none),[1,9]),(zi 92 (zk 136 [((.t 91),(.sl 5))]),[4]),zp (zv 93 (.bin .add .no (.t 89) (.t 92))),zp (zm 2 93)]
def k0m:IC:=(.seq qcjk (.seq qcil (.seq (.seq qceo (.block 0 (.seq qcgo (.cond (.t 11) (.seq qch8 .ret) (.seq qcd0 (.cond (.t 24) (.seq qcfm .ret) .skip)))))) (.seq qcdy (.seq (.seq qcc5 (.block 1 (.seq qcgs (.cond (.t 47) (.seq qbwi (.seq qbs6 .ret)) (.seq qbr7 (.cond (.t 60) (.seq qbu5 .ret) .skip)))))) (.seq qb9n .ret))))))
@[go_sem] def s0m:List (RV×Co):=[(.t 2,.id)]
theorem c0m:cFun Tryz.prog 87 = some (94,k0m,s0m):=by kernel_rfl

def qbyc:IC:=zr [zi 2 (.box (.t 0)),zi 3 (.box (.t 1)),zv 4 (.mov (.c .nilf))]
def qb4m:IC:=zr [zv 5 (.mfn 140 [] [(.t 2),(.t 3)]),zm 4 5]
def k0cd:IC:=(.seq qbyc (.seq qb4m .ret))
@[go_sem] def s0cd:List (RV×Co):=[(.t 4,.id)]
theorem c0cd:cFun Tryz.prog 88 = some (6,k0cd,s0cd):=by kernel_rfl

def qbw6:IC:=zr [zi 2 (.box (.t 0)),zv 4 zf]
def qbsg:IC:=zr [zv 5 (zd 2 2),zv 6 (zg 1 5),zv 7 (zq (.t 6) (zc 0)),zm 8 7,zw 8 true 9 (zo 1),zw 8 true 10 (zd 2 3),zw 8 true 11 (zg 1 10),zj 8 true 12 (.call (.t 9) [zI 11]),zv 13 (.pick (.t 8) (.t 12) (.c (.bool false))),zm 4 13]
def k0bw:IC:=(.seq qbw6 (.seq qbsg .ret))
@[go_sem] def s0bw:List (RV×Co):=[(.t 4,.id)]
theorem c0bw:cFun Tryz.prog 89 = some (14,k0bw,s0bw):=by kernel_rfl

def qb8u:IC:=zr [zv 2 zf]
def qb8x:IC:=zr [zm 3 0,zv 4 (.bin .neq .no (.t 3) (.c (.str []))),zm 5 4,zw 5 true 6 (zo 0),zw 5 true 7 (.bin .neq .no (.t 6) (.c (.str [95]))),zv 8 (.pick (.t 5) (.t 7) (.c (.bool false))),zm 9 8,zw 9 true 10 (zo 0),zw 9 true 11 (.idx (.t 10) (zc 0)),zj 9 true 12 (zk 142 [zI 11]),zv 13 (.pick (.t 9) (.t 12) (.c (.bool false))),zm 14 13,zw 14 true 15 (zo 0),zj 14 true 16 (zk 143 [zI 15]),zv 17 (.pick (.t 14) (.t 16) (.c (.bool false))),zm 18 17,zw 18 true 19 (zo 0),zj 18 true 20 (zk 144 [zI 19]),zw 18 true 21 (.un .not (.t 20)),zv 22 (.pick (.t 18) (.t 21) (.c (.bool false))),zm 2 22]
def k0ck:IC:=(.seq qb8u (.seq qb8x .ret))
@[go_sem] def s0ck:List (RV×Co):=[(.t 2,.id)]
theorem c0ck:cFun Tryz.prog 90 = some (23,k0ck,s0ck):=by kernel_rfl

def qb2n:IC:=zr [zv 2 zf]
def qbup:IC:=zr [zm 3 0,zv 4 (.bin .neq .no (.t 3) (.c (.str []))),zm 5 4,zw 5 true 6 (zo 0),zw 5 true 7 (.idx (.t 6) (zc 0)),zj 5 true 8 (zk 145 [zI 7]),zv 9 (.pick (.t 5) (.t 8) (.c (.bool false))),zm 10 9,zw 10 true 11 (zo 0),zj 10 true 12 (zk 143 [zI 11]),zv 13 (.pick (.t 10) (.t 12) (.c (.bool false))),zm 2 13]
def k0cj:IC:=(.seq qb2n (.seq qbup .ret))
@[go_sem] def s0cj:List (RV×Co):=[(.t 2,.id)]
theorem c0cj:cFun Tryz.prog 91 = some (14,k0cj,s0cj):=by kernel_rfl

def qbxo:IC:=zr [zi 2 zaN,zv 3 zf]
def qbxt:IC:=zr [zm 8 0,zi 9 (zk 66 [zI 8]),zv 10 (.fld false 1 1 (.t 9)),zv 11 (.bld [(.int .i64 0),(.int .i64 0),(.int .i64 0),(.str []),.nils] [(0,1,(zc 4)),(1,1,(.t 10))]),zi 4 zaN,zn (.st 5 zN (.t 4) (.t 11))]
def qbrs:IC:=zr [zm 13 0,zi 14 (zk 146 [zI 13]),zm 12 14,zv 15 (zx 12 0),zv 16 (zx 12 1),zm 5 15,zm 6 16]
def qb7z:IC:=zr [zm 17 6,zv 18 (.un .not (.t 17))]
def qbu0:IC:=zr [zv 19 (.bld [(.int .i64 0),(.int .i64 0),(.int .i64 0),(.str []),.nils] []),zn (.st 5 zN (.t 2) (.t 19)),zv 3 zf]
def qb6b:IC:=zr [zm 21 0,zi 22 (zk 93 [zI 21]),zm 20 22,zv 23 (zx 20 0),zv 24 (zx 20 1),zi 7 zaN,zn (.st 5 zN (.t 7) (.t 23)),zm 6 24]
def qb45:IC:=zr [zm 25 5,zv 26 (zl 5 7),zv 27 (.bsl 5 [zA 26]),zi 28 (.app 5 zZ 64 (.sl 5) (.t 25) (.t 27)),zv 29 (zd 4 4),zn (.st 1 (.sl 5) (.t 29) (.t 28))]
def qb56:IC:=zr [zm 30 0,zv 31 (zl 5 4),zm 32 6,zi 33 (zk 147 [zI 30,zA 31,zI 32]),zv 34 (zx 33 0),zv 35 (zx 33 1),zn (.st 5 zN (.t 2) (.t 34)),zm 3 35]
def k0du:IC:=(.seq qbxo (.seq qbxt (.seq qbrs (.seq (.seq qb7z (.cond (.t 18) (.seq qbu0 .ret) .skip)) (.seq qb6b (.seq qb45 (.seq qb56 .ret)))))))
@[go_sem] def s0du:List (RV×Co):=[(.c true 5 2,zN),(.t 3,.id)]
theorem c0du:cFun Tryz.prog 92 = some (36,k0du,s0du):=by kernel_rfl

def qb4r:IC:=zr [zi 2 zaN,zv 3 zf]
def qbr4:IC:=zr [zm 8 0,zi 9 (zk 95 [zI 8]),zv 10 (.un .not (.t 9))]
def qbr1:IC:=zr [zv 11 (.bld [(.int .i64 0),(.int .i64 0),(.int .i64 0),(.str []),.nils] []),zn (.st 5 zN (.t 2) (.t 11)),zv 3 zf]
def qb6k:IC:=zr [zm 13 0,zi 14 (zk 148 [zI 13]),zm 12 14,zv 15 (zx 12 0),zv 16 (zx 12 1),zi 4 zaN,zn (.st 5 zN (.t 4) (.t 15)),zm 5 16]
def qbws:IC:=zr [zm 17 5,zm 18 17,zw 18 true 19 (zo 0),zj 18 true 20 (zk 105 [zI 19,((.c (.str [45,62])),.id)]),zv 21 (.pick (.t 18) (.t 20) (.c (.bool false)))]
def qb2g:IC:=zr [zm 23 0,zi 24 (zk 93 [zI 23]),zm 22 24,zv 25 (zx 22 0),zv 26 (zx 22 1),zi 6 zaN,zn (.st 5 zN (.t 6) (.t 25)),zm 7 26]
def qbvl:IC:=zr [zv 27 (zd 4 1),zv 28 (zg 1 27),zv 29 (zl 5 4),zv 30 (zl 5 6),zv 31 (.bsl 5 [zA 29,zA 30]),zv 32 (.bld [(.int .i64 0),(.int .i64 0),(.int .i64 0),(.str []),.nils] [(0,1,(zc 2)),(1,1,(.t 28)),(3,1,(.c (.str [45,62]))),(4,1,(.t 31))]),zm 33 7,zn (.st 5 zN (.t 4) (.t 32)),zm 5 33]
def qbur:IC:=zr [zm 34 0,zi 35 (zk 98 [zI 34])]
def qb9p:IC:=zr [zm 36 0,zv 37 (zl 5 4),zm 38 5,zi 39 (zk 147 [zI 36,zA 37,zI 38]),zv 40 (zx 39 0),zv 41 (zx 39 1),zn (.st 5 zN (.t 2) (.t 40)),zm 3 41]
def k0ec:IC:=(.seq qb4r (.seq (.seq qbr4 (.cond (.t 10) (.seq qbr1 .ret) .skip)) (.seq qb6k (.seq (.seq qbws (.cond (.t 21) (.seq qb2g qbvl) .skip)) (.seq qbur (.seq qb9p .ret))))))
@[go_sem] def s0ec:List (RV×Co):=[(.c true 5 2,zN),(.t 3,.id)]
theorem c0ec:cFun Tryz.prog 93 = some (42,k0ec,s0ec):=by kernel_rfl

def qbwa:IC:=zr [zi 1 (.box (.t 0)),zv 2 (.mov (.c .nilf))]
def qb4a:IC:=zr [zv 3 (.mfn 149 [] [(.t 1)]),zm 2 3]
def k0cp:IC:=(.seq qbwa (.seq qb4a .ret))
@[go_sem] def s0cp:List (RV×Co):=[(.t 2,.id)]
theorem c0cp:cFun Tryz.prog 94 = some (4,k0cp,s0cp):=by kernel_rfl

def qbyq:IC:=zr [zv 2 zf]
def qb69:IC:=zr [zm 3 0,zi 4 (zk 109 [zI 3]),zm 5 4,zw 5 false 6 (zo 0),zw 5 false 7 (.nck (.t 6)),zw 5 false 8 (zd 7 6),zw 5 false 9 (zg 1 8),zw 5 false 10 (.bin .geq .no (.t 9) (zc 200)),zv 11 (.pick (.t 5) (.c (.bool true)) (.t 10))]
def qb6t:IC:=zr [zm 12 0,zi 13 (zk 152 [zI 12,((zc 2),.id)]),zm 2 13]
def qbvn:IC:=zr [zm 14 0,zv 15 (.nck (.t 14)),zv 16 (zd 15 6),zv 17 (zg 1 16),zv 18 (.bin .add .no (.t 17) (zc 1)),zv 19 (.nck (.t 14)),zv 20 (zd 19 6),zn (.st 1 .id (.t 20) (.t 18))]
def qbyi:IC:=zr [zv 2 (.mov (.c (.bool true)))]
def k0em:IC:=(.seq qbyq (.seq (.seq qb69 (.cond (.t 11) (.seq qb6t .ret) .skip)) (.seq qbvn (.seq qbyi .ret))))
@[go_sem] def s0em:List (RV×Co):=[(.t 2,.id)]
theorem c0em:cFun Tryz.prog 95 = some (21,k0em,s0em):=by kernel_rfl

def qcbk:IC:=zr [zi 2 zaN,zv 3 zf]
def qb8l:IC:=zr [zm 9 0,zi 10 (zk 153 [zI 9]),zm 8 10,zv 11 (zx 8 0),zv 12 (zx 8 1),zi 4 zaN,zn (.st 5 zN (.t 4) (.t 11)),zm 5 12]
def qbrl:IC:=zr [zm 13 5]
def qb3i:IC:=zr [zm 14 0,zi 15 (zk 154 [zI 14])]
def qbyj:IC:=zr [zv 16 (zl 5 4),zn (.st 5 zN (.t 2) (.t 16)),zv 3 (.mov (.c (.bool true)))]
def qb3l:IC:=zr [zm 17 0,zi 18 (zk 155 [zI 17,((.c (.str [40])),.id)]),zv 19 (.un .not (.t 18))]
def qbui:IC:=zr [zv 20 (.bld [(.int .i64 0),(.int .i64 0),(.int .i64 0),(.str []),.nils] []),zm 21 0,zi 22 (zk 152 [zI 21,((zc 5),.id)]),zn (.st 5 zN (.t 2) (.t 20)),zm 3 22]
def qbu2:IC:=zr [zm 23 0,zi 24 (zk 95 [zI 23]),zv 25 (.un .not (.t 24))]
def qbue:IC:=zr [zv 26 (.bld [(.int .i64 0),(.int .i64 0),(.int .i64 0),(.str []),.nils] []),zn (.st 5 zN (.t 2) (.t 26)),zv 3 zf]
def qbvc:IC:=zr [zm 27 0,zi 28 (zk 154 [zI 27])]
def qblb:IC:=zr [zm 30 0,zi 31 (zk 54 [zI 30]),zm 29 31,zv 32 (zx 29 0),zv 33 (zx 29 1),zi 6 zaN,zn (.st 5 zN (.t 6) (.t 32)),zm 7 33]
def qbhv:IC:=zr [zm 34 7,zv 35 (.un .not (.t 34)),zm 36 35,zw 36 false 37 (zo 0),zj 36 false 38 (zk 156 [zI 37,((.c (.str [41])),.id)]),zw 36 false 39 (.un .not (.t 38)),zv 40 (.pick (.t 36) (.c (.bool true)) (.t 39))]
def qbns:IC:=zr [zv 41 (.bld [(.int .i64 0),(.int .i64 0),(.int .i64 0),(.str []),.nils] []),zn (.st 5 zN (.t 2) (.t 41)),zv 3 zf]
def qbnn:IC:=zr [zm 42 0,zi 43 (zk 98 [zI 42])]
def qbjo:IC:=zr [zv 44 (zl 5 6),zn (.st 5 zN (.t 2) (.t 44)),zv 3 (.mov (.c (.bool true)))]
def k0ds:IC:=(.seq qcbk (.seq (.seq qb8l (.seq qbrl (.cond (.t 13) (.seq qb3i (.seq qbyj .ret)) .skip))) (.seq (.seq qb3l (.cond (.t 19) (.seq qbui .ret) .skip)) (.seq (.seq qbu2 (.cond (.t 25) (.seq qbue .ret) .skip)) (.seq qbvc (.seq qblb (.seq (.seq qbhv (.cond (.t 40) (.seq qbns .ret) .skip)) (.seq qbnn (.seq qbjo .ret)))))))))
@[go_sem] def s0ds:List (RV×Co):=[(.c true 5 2,zN),(.t 3,.id)]
theorem c0ds:cFun Tryz.prog 96 = some (45,k0ds,s0ds):=by kernel_rfl

def qbqr:IC:=zr [zv 2 zf]
def qb72:IC:=zr [zm 6 0,zi 7 (zk 153 [zI 6]),zm 5 7,zv 8 (zx 5 0),zv 9 (zx 5 1),zi 3 zaN,zn (.st 5 zN (.t 3) (.t 8)),zm 4 9]
def qbys:IC:=zr [zm 10 4,zm 11 10,zw 11 false 12 (zo 0),zj 11 false 13 (zk 155 [zI 12,((.c (.str [40])),.id)]),zv 14 (.pick (.t 11) (.c (.bool true)) (.t 13)),zm 2 14]
def k0dr:IC:=(.seq qbqr (.seq qb72 (.seq qbys .ret)))
@[go_sem] def s0dr:List (RV×Co):=[(.t 2,.id)]
theorem c0dr:cFun Tryz.prog 97 = some (15,k0dr,s0dr):=by kernel_rfl

def qb9s:IC:=zr [zm 2 0,zi 3 (zk 109 [zI 2]),zv 4 (.un .not (.t 3)),zm 5 4,zw 5 true 6 (zo 0),zw 5 true 7 (.nck (.t 6)),zw 5 true 8 (zd 7 6),zw 5 true 9 (zg 1 8),zw 5 true 10 (.bin .gtr .no (.t 9) (zc 0)),zv 11 (.pick (.t 5) (.t 10) (.c (.bool false)))]
def qbt5:IC:=zr [zm 12 0,zv 13 (.nck (.t 12)),zv 14 (zd 13 6),zv 15 (zg 1 14),zv 16 (.bin .sub .no (.t 15) (zc 1)),zv 17 (.nck (.t 12)),zv 18 (zd 17 6),zn (.st 1 .id (.t 18) (.t 16))]
def k0en:IC:=(.seq qb9s (.cond (.t 11) qbt5 .skip))
@[go_sem] def s0en:List (RV×Co):=[]
theorem c0en:cFun Tryz.prog 98 = some (19,k0en,s0en):=by kernel_rfl

def qbzy:IC:=zr [zi 1 (.box (.t 0)),zv 2 zf]
def qbyz:IC:=zr [zv 3 (zl 5 1),zi 4 (zk 100 [zA 3]),zm 5 4,zw 5 false 6 (zl 5 1),zj 5 false 7 (zk 101 [zA 6]),zv 8 (.pick (.t 5) (.c (.bool true)) (.t 7)),zm 2 8]
def k0bm:IC:=(.seq qbzy (.seq qbyz .ret))
@[go_sem] def s0bm:List (RV×Co):=[(.t 2,.id)]
theorem c0bm:cFun Tryz.prog 99 = some (9,k0bm,s0bm):=by kernel_rfl

def qb79:IC:=zr [zi 1 (.box (.t 0)),zv 2 zf]
def qbv4:IC:=zr [zv 3 (zd 1 0),zv 4 (zg 1 3),zv 5 (zq (.t 4) (zc 31)),zm 6 5,zw 6 true 7 (zl 5 1),zj 6 true 8 (zk 89 [zA 7,((.c (.fn 90 [] [])),.id)]),zv 9 (.pick (.t 6) (.t 8) (.c (.bool false))),zm 10 9,zw 10 true 11 (zd 1 4),zw 10 true 12 (zg 1 11),zw 10 true 13 (.len false (.t 12)),zw 10 true 14 (zq (.t 13) (zc 1)),zv 15 (.pick (.t 10) (.t 14) (.c (.bool false))),zm 16 15,zw 16 true 17 (zd 1 4),zw 16 true 18 (zg 1 17),zw 16 true 19 (.iad 5 (.t 18) (zc 0)),zw 16 true 20 (zl 5 19),zj 16 true 21 (zk 57 [zA 20]),zv 22 (.pick (.t 16) (.t 21) (.c (.bool false))),zm 2 22]
def k0bo:IC:=(.seq qb79 (.seq qbv4 .ret))
@[go_sem] def s0bo:List (RV×Co):=[(.t 2,.id)]
theorem c0bo:cFun Tryz.prog 100 = some (23,k0bo,s0bo):=by kernel_rfl

def qb14:IC:=zr [zi 1 (.box (.t 0)),zv 2 zf]
def qbz8:IC:=zr [zv 3 (zd 1 0),zv 4 (zg 1 3),zv 5 (zq (.t 4) (zc 32)),zm 6 5,zw 6 true 7 (zl 5 1),zj 6 true 8 (zk 89 [zA 7,((.c (.fn 90 [] [])),.id)]),zv 9 (.pick (.t 6) (.t 8) (.c (.bool false))),zm 10 9,zw 10 true 11 (zd 1 4),zw 10 true 12 (zg 1 11),zw 10 true 13 (.len false (.t 12)),zw 10 true 14 (zq (.t 13) (zc 1)),zv 15 (.pick (.t 10) (.t 14) (.c (.bool false))),zm 16 15,zw 16 true 17 (zd 1 4),zw 16 true 18 (zg 1 17),zw 16 true 19 (.iad 5 (.t 18) (zc 0)),zw 16 true 20 (zl 5 19),zj 16 true 21 (zk 157 [zA 20]),zv 22 (.pick (.t 16) (.t 21) (.c (.bool false))),zm 2 22]
def k0bu:IC:=(.seq qb14 (.seq qbz8 .ret))
@[go_sem] def s0bu:List (RV×Co):=[(.t 2,.id)]
theorem c0bu:cFun Tryz.prog 101 = some (23,k0bu,s0bu):=by kernel_rfl

def qcaa:IC:=zr [zi 1 (.box (.t 0)),zv 2 zf]
def qb2x:IC:=zr [zv 3 (zd 1 0),zv 4 (zg 1 3),zv 5 (zq (.t 4) (zc 15)),zm 6 5,zw 6 true 7 (zl 5 1),zj 6 true 8 (zk 67 [zA 7]),zv 9 (.pick (.t 6) (.t 8) (.c (.bool false))),zm 10 9,zw 10 true 11 (zd 1 4),zw 10 true 12 (zg 1 11),zw 10 true 13 (.len false (.t 12)),zw 10 true 14 (zq (.t 13) (zc 2)),zv 15 (.pick (.t 10) (.t 14) (.c (.bool false))),zm 16 15,zw 16 true 17 (zd 1 4),zw 16 true 18 (zg 1 17),zw 16 true 19 (.iad 5 (.t 18) (zc 0)),zw 16 true 20 (zl 5 19),zj 16 true 21 (zk 51 [zA 20]),zv 22 (.pick (.t 16) (.t 21) (.c (.bool false))),zm 23 22,zw 23 true 24 (zd 1 4),zw 23 true 25 (zg 1 24),zw 23 true 26 (.iad 5 (.t 25) (zc 1)),zw 23 true 27 (zl 5 26),zj 23 true 28 (zk 57 [zA 27]),zv 29 (.pick (.t 23) (.t 28) (.c (.bool false))),zm 2 29]
def k0bp:IC:=(.seq qcaa (.seq qb2x .ret))
@[go_sem] def s0bp:List (RV×Co):=[(.t 2,.id)]
theorem c0bp:cFun Tryz.prog 102 = some (30,k0bp,s0bp):=by kernel_rfl

def qbss:IC:=zr [zi 2 zaN,zv 3 zf]
def qbv5:IC:=zr [zm 5 0,zi 6 (zk 66 [zI 5]),zv 7 (.fld false 1 1 (.t 6)),zv 8 (.bld [(.int .i64 0),(.int .i64 0),(.int .i64 0),(.str []),.nils] [(1,1,(.t 7))]),zi 4 zaN,zn (.st 5 zN (.t 4) (.t 8))]
def qbtu:IC:=zr [zm 10 0,zi 11 (zk 105 [zI 10,((.c (.str [92])),.id)]),zm 9 11]
def qb36:IC:=zr [zm 12 0,zi 13 (zk 66 [zI 12]),zv 14 (.fld false 1 0 (.t 13)),zv 15 (.bin .neq .no (.t 14) (zc 1))]
def qb61:IC:=.drw [zp (zv 16 (zl 5 4)),zp (zm 17 0),(zi 18 (zk 152 [zI 17,((zc 5),.id)]),[0]),(zn (.st 5 zN (.t 2) (.t 16)),[]),zp (zm 3 18)]
def qbxf:IC:=zr [zm 19 0,zi 20 (zk 158 [zI 19,((.c (.str [45,62])),.id)]),zv 21 (zx 20 0),zv 22 (zx 20 1),zn (.st 5 zN (.t 2) (.t 21)),zm 3 22]
def qbro:IC:=zr [zm 24 0,zi 25 (zk 105 [zI 24,((.c (.str [108,101,116])),.id)]),zm 23 25]
def qb5b:IC:=zr [zm 26 0,zv 27 (zl 5 4),zi 28 (zk 159 [zI 26,zA 27]),zv 29 (zx 28 0),zv 30 (zx 28 1),zn (.st 5 zN (.t 2) (.t 29)),zm 3 30]
def qb6q:IC:=zr [zm 32 0,zi 33 (zk 105 [zI 32,((.c (.str [99,97,115,101])),.id)]),zm 31 33]
def qb0h:IC:=zr [zm 34 0,zv 35 (zl 5 4),zi 36 (zk 160 [zI 34,zA 35]),zv 37 (zx 36 0),zv 38 (zx 36 1),zn (.st 5 zN (.t 2) (.t 37)),zm 3 38]
def qblp:IC:=zr [zm 40 0,zi 41 (zk 105 [zI 40,((.c (.str [105,102])),.id)]),zm 39 41]
def qbj5:IC:=zr [zm 42 0,zv 43 (zl 5 4),zi 44 (zk 161 [zI 42,zA 43]),zv 45 (zx 44 0),zv 46 (zx 44 1),zn (.st 5 zN (.t 2) (.t 45)),zm 3 46]
def qbj8:IC:=zr [zm 47 0,zi 48 (zk 162 [zI 47]),zv 49 (zx 48 0),zv 50 (zx 48 1),zn (.st 5 zN (.t 2) (.t 49)),zm 3 50]
def k0dh:IC:=(.seq qbss (.seq qbv5 (.seq (.block 0 (.seq qbtu (.cond (.t 9) (.seq (.seq qb36 (.cond (.t 15) (.seq qb61 .ret) .skip)) (.seq qbxf .ret)) (.seq qbro (.cond (.t 23) (.seq qb5b .ret) (.seq qb6q (.cond (.t 31) (.seq qb0h .ret) (.seq qblp (.cond (.t 39) (.seq qbj5 .ret) .skip))))))))) (.seq qbj8 .ret))))
@[go_sem] def s0dh:List (RV×Co):=[(.c true 5 2,zN),(.t 3,.id)]
theorem c0dh:cFun Tryz.prog 103 = some (51,k0dh,s0dh):=by kernel_rfl

def qbyk:IC:=zr [zv 3 zf]
def qbtv:IC:=zr [zv 4 (zg 1 0)]
def qb1p:IC:=zr [zv 5 (zg 1 1),zv 6 (zg 1 2),zi 7 (zk 105 [zI 5,zI 6]),zm 3 7]
def qbv2:IC:=zr [zn (.st 1 .id (.t 0) (.c (.bool true)))]
def qbxj:IC:=zr [zv 3 (.mov (.c (.bool true)))]
def k0fd:IC:=(.seq qbyk (.seq (.seq qbtv (.cond (.t 4) (.seq qb1p .ret) .skip)) (.seq qbv2 (.seq qbxj .ret))))
@[go_sem] def s0fd:List (RV×Co):=[(.t 3,.id)]
theorem c0fd:cFun Tryz.prog 104 = some (8,k0fd,s0fd):=by kernel_rfl

def qbvh:IC:=zr [zv 4 zf]
def qbse:IC:=zr [zm 5 0,zm 6 1,zi 7 (zk 155 [zI 5,zI 6]),zv 8 (.un .not (.t 7))]
def qbvq:IC:=zr [zv 4 zf]
def qb74:IC:=zr [zm 9 0,zi 10 (zk 154 [zI 9])]
def qbun:IC:=zr [zv 4 (.mov (.c (.bool true)))]
def k0ek:IC:=(.seq qbvh (.seq (.seq qbse (.cond (.t 8) (.seq qbvq .ret) .skip)) (.seq qb74 (.seq qbun .ret))))
@[go_sem] def s0ek:List (RV×Co):=[(.t 4,.id)]
theorem c0ek:cFun Tryz.prog 105 = some (11,k0ek,s0ek):=by kernel_rfl

def qb9r:IC:=zr [zi 2 (.box (.t 0)),zi 3 (.box (.t 1)),zi 4 zaN,zv 5 zf]
def qby1:IC:=zr [zv 11 (zg 1 2),zi 12 (zk 163 [zI 11,((zc 2),.id)]),zm 10 12,zv 13 (zx 10 0),zv 14 (zx 10 1),zi 6 zaT,zn (.st 4 .id (.t 6) (.t 13)),zm 7 14]
def qbqq:IC:=zr [zm 15 7,zv 16 (.un .not (.t 15))]
def qb89:IC:=zr [zv 17 (zl 5 3),zn (.st 5 zN (.t 4) (.t 17)),zv 5 zf]
def qb3h:IC:=zr [zv 19 (.mfn 164 [] [(.t 2)]),zv 20 (.mfn 166 [] [(.t 2)]),zi 21 (zk 62 [((.c .nils),(.sl 5)),zI 19,zI 20]),zm 18 21,zv 22 (zx 18 0),zv 23 (zx 18 1),zm 8 22,zm 9 23]
def qb4b:IC:=zr [zv 24 (zg 1 2),zi 25 (zk 156 [zI 24,((.c (.str [61])),.id)]),zv 26 (.un .not (.t 25))]
def qb1b:IC:=zr [zv 27 (zl 5 3),zn (.st 5 zN (.t 4) (.t 27)),zv 5 zf]
def qcaz:IC:=.drw [zp (zv 28 (zd 6 3)),zp (zv 29 (zg 1 28)),zp (zm 30 8),zp (zv 31 (.len false (.t 30))),zp (zv 32 (zd 3 0)),(zn (.st 1 .id (.t 32) (zc 33)),[1]),zp (zv 33 (zd 3 3)),(zn (.st 1 .id (.t 33) (.t 29)),[]),zp (zv 34 (zd 3 2)),(zn (.st 1 .id (.t 34) (.t 31)),[])]
def qcbu:IC:=zr [zm 36 8,zv 37 (.mfn 167 [] [(.t 2)]),zv 38 (zg 1 2),zi 39 (zk 61 [zI 38,((.c (.str [124])),.id)]),zi 40 (zk 62 [((.t 36),(.sl 5)),zI 37,zI 39]),zm 35 40,zv 41 (zx 35 0),zv 42 (zx 35 1),zv 43 (zd 3 4),zn (.st 1 (.sl 5) (.t 43) (.t 41)),zm 7 42]
def qb5y:IC:=zr [zv 44 (zl 5 3),zm 45 7,zn (.st 5 zN (.t 4) (.t 44)),zm 5 45]
def k0fb:IC:=(.seq qb9r (.seq qby1 (.seq (.seq qbqq (.cond (.t 16) (.seq qb89 .ret) .skip)) (.seq qb3h (.seq (.seq qb4b (.cond (.t 26) (.seq qb1b .ret) .skip)) (.seq qcaz (.seq qcbu (.seq qb5y .ret))))))))
@[go_sem] def s0fb:List (RV×Co):=[(.c true 5 4,zN),(.t 5,.id)]
theorem c0fb:cFun Tryz.prog 106 = some (46,k0fb,s0fb):=by kernel_rfl

def qbwk:IC:=zr [zi 3 (.box (.t 1)),zi 4 zaN,zv 5 zf]
def qcbo:IC:=zr [zm 12 0,zi 13 (zk 146 [zI 12]),zm 11 13,zv 14 (zx 11 0),zv 15 (zx 11 1),zm 6 14,zm 7 15]
def qb8q:IC:=zr [zm 16 7,zv 17 (.un .not (.t 16))]
def qb2s:IC:=zr [zv 18 (zl 5 3),zn (.st 5 zN (.t 4) (.t 18)),zv 5 zf]
def qbzt:IC:=zr [zm 20 0,zi 21 (zk 163 [zI 20,((zc 2),.id)]),zm 19 21,zv 22 (zx 19 0),zv 23 (zx 19 1),zi 8 zaT,zn (.st 4 .id (.t 8) (.t 22)),zm 7 23]
def qbv9:IC:=zr [zm 24 7,zv 25 (.un .not (.t 24))]
def qb1m:IC:=zr [zv 26 (zl 5 3),zn (.st 5 zN (.t 4) (.t 26)),zv 5 zf]
def qbq4:IC:=zr [zv 27 (zd 8 3),zv 28 (zg 1 27),zm 29 6,zv 30 (.len false (.t 29)),zv 31 (zd 3 3),zn (.st 1 .id (.t 31) (.t 28)),zv 32 (zd 3 2),zn (.st 1 .id (.t 32) (.t 30))]
def qb9l:IC:=zr [zv 9 (.mov (zc 31))]
def qbsp:IC:=zr [zv 33 (zd 3 0),zv 34 (zg 1 33),zv 35 (zq (.t 34) (zc 35))]
def qbms:IC:=zr [zv 9 (.mov (zc 32))]
def qbg5:IC:=zr [zm 36 0,zi 37 (zk 66 [zI 36]),zv 38 (.fld false 1 0 (.t 37)),zv 39 (.bin .neq .no (.t 38) (zc 1))]
def qbj7:IC:=.drw [zp (zv 40 (zl 5 3)),zp (zm 41 0),(zi 42 (zk 152 [zI 41,((zc 5),.id)]),[0]),(zn (.st 5 zN (.t 4) (.t 40)),[]),zp (zm 5 42)]
def qbg1:IC:=zr [zm 44 0,zi 45 (zk 165 [zI 44]),zm 43 45,zv 46 (zx 43 0),zv 47 (zx 43 1),zi 10 zaN,zn (.st 5 zN (.t 10) (.t 46)),zm 7 47]
def qbno:IC:=zr [zm 48 7,zv 49 (.un .not (.t 48))]
def qbjp:IC:=zr [zv 50 (zl 5 3),zn (.st 5 zN (.t 4) (.t 50)),zv 5 zf]
def qboo:IC:=zr [zm 52 0,zm 53 6,zv 54 (zl 5 10),zv 55 (.bsl 5 [zA 54]),zi 56 (.app 5 zZ 64 (.sl 5) (.t 53) (.t 55)),zm 57 9,zi 58 (zk 169 [zI 52,((.t 56),(.sl 5)),zI 57]),zm 51 58,zv 59 (zx 51 0),zv 60 (zx 51 1),zv 61 (zd 3 4),zn (.st 1 (.sl 5) (.t 61) (.t 59)),zm 7 60]
def qbig:IC:=zr [zv 62 (zl 5 3),zm 63 7,zn (.st 5 zN (.t 4) (.t 62)),zm 5 63]
def k0ev:IC:=(.seq qbwk (.seq qcbo (.seq (.seq qb8q (.cond (.t 17) (.seq qb2s .ret) .skip)) (.seq qbzt (.seq (.seq qbv9 (.cond (.t 25) (.seq qb1m .ret) .skip)) (.seq qbq4 (.seq qb9l (.seq (.seq qbsp (.cond (.t 35) (.seq qbms (.seq qbg5 (.cond (.t 39) (.seq qbj7 .ret) .skip))) .skip)) (.seq qbg1 (.seq (.seq qbno (.cond (.t 49) (.seq qbjp .ret) .skip)) (.seq qboo (.seq qbig .ret))))))))))))
@[go_sem] def s0ev:List (RV×Co):=[(.c true 5 4,zN),(.t 5,.id)]
theorem c0ev:cFun Tryz.prog 107 = some (64,k0ev,s0ev):=by kernel_rfl

def qb2z:IC:=zr [zi 2 zaN,zv 3 zf]
def qb0c:IC:=zr [zm 9 0,zi 10 (zk 163 [zI 9,((zc 1),.id)]),zm 8 10,zv 11 (zx 8 0),zv 12 (zx 8 1),zi 4 zaT,zn (.st 4 .id (.t 4) (.t 11)),zm 5 12]
def qcaj:IC:=zr [zm 13 5,zv 14 (.un .not (.t 13))]
def qbsh:IC:=zr [zv 15 (.bld [(.int .i64 0),(.int .i64 0),(.int .i64 0),(.str []),.nils] []),zn (.st 5 zN (.t 2) (.t 15)),zv 3 zf]
def qbst:IC:=zr [zv 16 (zd 4 1),zv 17 (zg 1 16),zv 18 (zd 4 3),zv 19 (zg 1 18),zv 20 (.bld [(.int .i64 0),(.int .i64 0),(.int .i64 0),(.str []),.nils] [(0,1,(zc 31)),(1,1,(.t 17)),(3,1,(.t 19))]),zi 6 zaN,zn (.st 5 zN (.t 6) (.t 20))]
def qbw8:IC:=zr [zi 7 zaN]
def qb3v:IC:=zr [zm 21 0,zi 22 (zk 105 [zI 21,((.c (.str [58,58])),.id)])]
def qb01:IC:=zr [zv 23 (zd 6 0),zn (.st 1 .id (.t 23) (zc 32))]
def qbvx:IC:=zr [zm 25 0,zi 26 (zk 92 [zI 25]),zm 24 26,zv 27 (zx 24 0),zv 28 (zx 24 1),zn (.st 5 zN (.t 7) (.t 27)),zm 5 28]
def qb5q:IC:=zr [zm 30 0,zi 31 (zk 158 [zI 30,((.c (.str [61])),.id)]),zm 29 31,zv 32 (zx 29 0),zv 33 (zx 29 1),zn (.st 5 zN (.t 7) (.t 32)),zm 5 33]
def qblq:IC:=zr [zm 34 5,zv 35 (.un .not (.t 34))]
def qbot:IC:=zr [zv 36 (.bld [(.int .i64 0),(.int .i64 0),(.int .i64 0),(.str []),.nils] []),zn (.st 5 zN (.t 2) (.t 36)),zv 3 zf]
def qbny:IC:=zr [zv 37 (zl 5 7),zv 38 (.bsl 5 [zA 37]),zv 39 (zd 6 4),zn (.st 1 (.sl 5) (.t 39) (.t 38))]
def qbn6:IC:=zr [zv 40 (zl 5 6),zn (.st 5 zN (.t 2) (.t 40)),zv 3 (.mov (.c (.bool true)))]
def k0dm:IC:=(.seq qb2z (.seq qb0c (.seq (.seq qcaj (.cond (.t 14) (.seq qbsh .ret) .skip)) (.seq qbst (.seq qbw8 (.seq (.seq qb3v (.cond (.t 22) (.seq qb01 qbvx) qb5q)) (.seq (.seq qblq (.cond (.t 35) (.seq qbot .ret) .skip)) (.seq qbny (.seq qbn6 .ret)))))))))
@[go_sem] def s0dm:List (RV×Co):=[(.c true 5 2,zN),(.t 3,.id)]
theorem c0dm:cFun Tryz.prog 108 = some (41,k0dm,s0dm):=by kernel_rfl

def qbz0:IC:=zr [zv 2 zf]
def qb1v:IC:=zr [zm 3 0,zv 4 (.bin .eql .ptr (.t 3) (.c .nilp)),zm 5 4,zw 5 false 6 (zo 0),zw 5 false 7 (.nck (.t 6)),zw 5 false 8 (zd 7 7),zw 5 false 9 (zg 1 8),zw 5 false 10 (.bin .neq .no (.t 9) (zc 0)),zv 11 (.pick (.t 5) (.c (.bool true)) (.t 10)),zm 2 11]
def k0ee:IC:=(.seq qbz0 (.seq qb1v .ret))
@[go_sem] def s0ee:List (RV×Co):=[(.t 2,.id)]
theorem c0ee:cFun Tryz.prog 109 = some (12,k0ee,s0ee):=by kernel_rfl

def qb43:IC:=zr [zi 1 (.box (.t 0)),zv 2 zf]
def qbwt:IC:=zr [zv 3 (zd 1 0),zv 4 (zg 1 3),zv 5 (zq (.t 4) (zc 1)),zm 6 5,zw 6 true 7 (zl 5 1),zj 6 true 8 (zk 48 [zA 7]),zv 9 (.pick (.t 6) (.t 8) (.c (.bool false))),zm 2 9]
def k0bf:IC:=(.seq qb43 (.seq qbwt .ret))
@[go_sem] def s0bf:List (RV×Co):=[(.t 2,.id)]
theorem c0bf:cFun Tryz.prog 110 = some (10,k0bf,s0bf):=by kernel_rfl

def qb15:IC:=zr [zi 1 (.box (.t 0)),zv 2 zf]
def qbye:IC:=zr [zv 3 (zd 1 0),zv 4 (zg 1 3),zv 5 (zq (.t 4) (zc 34)),zm 6 5,zw 6 true 7 (zl 5 1),zj 6 true 8 (zk 89 [zA 7,((.c (.fn 91 [] [])),.id)]),zv 9 (.pick (.t 6) (.t 8) (.c (.bool false))),zm 10 9,zw 10 true 11 (zd 1 4),zw 10 true 12 (zg 1 11),zj 10 true 13 (zk 68 [((.t 12),(.sl 5)),((.c (.fn 48 [] [])),.id)]),zv 14 (.pick (.t 10) (.t 13) (.c (.bool false))),zm 2 14]
def k0bg:IC:=(.seq qb15 (.seq qbye .ret))
@[go_sem] def s0bg:List (RV×Co):=[(.t 2,.id)]
theorem c0bg:cFun Tryz.prog 111 = some (15,k0bg,s0bg):=by kernel_rfl

def qb57:IC:=zr [zi 1 (.box (.t 0)),zv 2 zf]
def qbzi:IC:=zr [zv 3 (zd 1 0),zv 4 (zg 1 3),zv 5 (zq (.t 4) (zc 3)),zm 6 5,zw 6 true 7 (zl 5 1),zj 6 true 8 (zk 89 [zA 7,((.c (.fn 91 [] [])),.id)]),zv 9 (.pick (.t 6) (.t 8) (.c (.bool false))),zm 10 9,zw 10 true 11 (zd 1 4),zw 10 true 12 (zg 1 11),zw 10 true 13 (.len false (.t 12)),zw 10 true 14 (zq (.t 13) (zc 1)),zv 15 (.pick (.t 10) (.t 14) (.c (.bool false))),zm 16 15,zw 16 true 17 (zd 1 4),zw 16 true 18 (zg 1 17),zw 16 true 19 (.iad 5 (.t 18) (zc 0)),zw 16 true 20 (zl 5 19),zj 16 true 21 (zk 48 [zA 20]),zv 22 (.pick (.t 16) (.t 21) (.c (.bool false))),zm 2 22]
def k0bs:IC:=(.seq qb57 (.seq qbzi .ret))
@[go_sem] def s0bs:List (RV×Co):=[(.t 2,.id)]
theorem c0bs:cFun Tryz.prog 112 = some (23,k0bs,s0bs):=by kernel_rfl

def qbri:IC:=zr [zi 1 (.box (.t 0)),zv 2 (.mov (.c (.str [])))]
def qbrc:IC:=.drw [zp (zv 3 (zd 1 3)),zp (zv 4 (zg 1 3)),zp (zv 5 (zd 1 4)),zp (zv 6 (zg 1 5)),zp (zv 7 (.iad 5 (.t 6) (zc 0))),zp (zv 8 (zl 5 7)),(zi 9 (zk 119 [zA 8]),[1]),zp (zv 10 (.bin .add .no (.t 4) (.t 9))),zp (zm 2 10)]
def k0ba:IC:=(.seq qbri (.seq qbrc .ret))
@[go_sem] def s0ba:List (RV×Co):=[(.t 2,.id)]
theorem c0ba:cFun Tryz.prog 118 = some (11,k0ba,s0ba):=by kernel_rfl

def qcjw:IC:=zr [zi 1 (.box (.t 0)),zv 2 (.mov (.c (.str [])))]
def qchm:IC:=.drw [zp (zv 3 (zl 5 1)),(zv 4 (.bld [(.int .i64 0),(.int .i64 0),(.int .i64 0),(.str []),.nils] [(0,5,(.t 3))]),[]),(zv 5 (.mki 37 (.t 4) zN),[]),zp (zv 6 (zl 5 1)),(zi 7 (zk 134 [zA 6]),[0,2]),(zi 8 (zk 131 [zI 5,zI 7]),[]),(zv 9 (.bin .add .no (.c (.str [32])) (.t 8)),[]),zp (zm 2 9)]
def k0y:IC:=(.seq qcjw (.seq qchm .ret))
@[go_sem] def s0y:List (RV×Co):=[(.t 2,.id)]
theorem c0y:cFun Tryz.prog 119 = some (10,k0y,s0y):=by kernel_rfl

def qbr8:IC:=zr [zv 2 (.mov (.c (.int .u64 0)))]
def qb1w:IC:=zr [zm 3 0,zv 4 (.bin .lss .no (.t 3) (zc 0))]
def qbrb:IC:=zr [zm 5 0,zv 6 (.cvi .u64 (.t 5)),zv 7 (.un .neg (.t 6)),zm 2 7]
def qbt9:IC:=zr [zm 8 0,zv 9 (.cvi .u64 (.t 8)),zm 2 9]
def k0cl:IC:=(.seq qbr8 (.seq (.seq qb1w (.cond (.t 4) (.seq qbrb .ret) .skip)) (.seq qbt9 .ret)))
@[go_sem] def s0cl:List (RV×Co):=[(.t 2,.id)]
theorem c0cl:cFun Tryz.prog 124 = some (10,k0cl,s0cl):=by kernel_rfl

def qcfu:IC:=zr [zv 4 (.mov (.c (.str [])))]
def qcgl:IC:=zr [zm 5 1]
def qcep:IC:=zr [zm 6 0,zi 7 (zk 46 [zI 6]),zm 4 7]
def qcgp:IC:=zr [zm 8 0,zi 9 (zk 46 [zI 8]),zv 10 (.bin .add .no (.c (.str [40])) (.t 9)),zv 11 (.bin .add .no (.t 10) (.c (.str [41]))),zm 4 11]
def k0w:IC:=(.seq qcfu (.seq (.seq qcgl (.cond (.t 5) (.seq qcep .ret) .skip)) (.seq qcgp .ret)))
@[go_sem] def s0w:List (RV×Co):=[(.t 4,.id)]
theorem c0w:cFun Tryz.prog 131 = some (12,k0w,s0w):=by kernel_rfl

def qb8i:IC:=zr [zv 2 (.mov (.c (.str [])))]
def qbrx:IC:=zr [zm 6 0,zv 7 (.cvi .u64 (.t 6)),zm 3 7]
def qbwq:IC:=zr [zm 8 0,zv 9 (.bin .lss .no (.t 8) (zc 0))]
def qcci:IC:=zr [zm 10 3,zv 11 (.un .neg (.t 10)),zm 3 11]
def qbuc:IC:=zr [zi 4 (.alo [(.int .u8 0),(.int .u8 0),(.int .u8 0),(.int .u8 0),(.int .u8 0),(.int .u8 0),(.int .u8 0),(.int .u8 0),(.int .u8 0),(.int .u8 0),(.int .u8 0),(.int .u8 0),(.int .u8 0),(.int .u8 0),(.int .u8 0),(.int .u8 0),(.int .u8 0),(.int .u8 0),(.int .u8 0),(.int .u8 0)])]
def qb7t:IC:=zr [zv 5 (.mov (zc 20))]
def qb92:IC:=zr [zm 12 5,zv 13 (.bin .sub .no (.t 12) (zc 1)),zm 5 13]
def qbvu:IC:=zr [zm 14 5,zm 15 3,zv 16 (.bin .rem .no (.t 15) (.c (.int .u64 10))),zv 17 (.bin .add .no (.c (.int .u64 48)) (.t 16)),zv 18 (.cvi .u8 (.t 17)),zv 19 (.aad 1 20 (.t 4) (.t 14)),zn (.st 1 .id (.t 19) (.t 18))]
def qb5s:IC:=zr [zm 20 3,zv 21 (.bin .quo .no (.t 20) (.c (.int .u64 10))),zm 3 21]
def qbhw:IC:=zr [zm 22 3,zv 23 (zq (.t 22) (.c (.int .u64 0)))]
def qb4z:IC:=(.block 1 (.seq qb92 (.seq qbvu (.seq qb5s (.seq qbhw (.cond (.t 23) (.exit 0) .skip))))))
def qbj0:IC:=zr [zm 24 0,zv 25 (.bin .lss .no (.t 24) (zc 0))]
def qbjy:IC:=zr [zm 26 5,zv 27 (.sla 20 (.t 4) (.t 26)),zv 28 (.cbs (.t 27)),zv 29 (.bin .add .no (.c (.str [45])) (.t 28)),zm 2 29]
def qbnt:IC:=zr [zm 30 5,zv 31 (.sla 20 (.t 4) (.t 30)),zv 32 (.cbs (.t 31)),zm 2 32]
def k0cn:IC:=(.seq qb8i (.seq qbrx (.seq (.seq qbwq (.cond (.t 9) qcci .skip)) (.seq qbuc (.seq qb7t (.seq (.block 0 (.loop qb4z)) (.seq (.seq qbj0 (.cond (.t 25) (.seq qbjy .ret) .skip)) (.seq qbnt .ret))))))))
@[go_sem] def s0cn:List (RV×Co):=[(.t 2,.id)]
theorem c0cn:cFun Tryz.prog 132 = some (33,k0cn,s0cn):=by kernel_rfl

def qbzv:IC:=zr [zi 1 (.box (.t 0)),zv 2 (.mov (.c (.str [])))]
def qb6r:IC:=.drw [zp (zv 3 (zl 5 1)),(zv 4 (.bld [(.int .i64 0),(.int .i64 0),(.int .i64 0),(.str []),.nils] [(0,5,(.t 3))]),[]),(zv 5 (.mki 38 (.t 4) zN),[]),zp (zv 6 (zl 5 1)),(zi 7 (zk 134 [zA 6]),[0,2]),(zi 8 (zk 131 [zI 5,zI 7]),[]),(zv 9 (.bin .add .no (.c (.str [32])) (.t 8)),[]),zp (zm 2 9)]
def k0bd:IC:=(.seq qbzv (.seq qb6r .ret))
@[go_sem] def s0bd:List (RV×Co):=[(.t 2,.id)]
theorem c0bd:cFun Tryz.prog 133 = some (10,k0bd,s0bd):=by kernel_rfl

def qcip:IC:=zr [zi 1 (.box (.t 0)),zv 2 zf]
def qcf9:IC:=zr [zv 3 (zd 1 4),zv 4 (zg 1 3),zv 5 (.len false (.t 4)),zv 6 (zq (.t 5) (zc 0)),zm 2 6]
def k0v:IC:=(.seq qcip (.seq qcf9 .ret))
@[go_sem] def s0v:List (RV×Co):=[(.t 2,.id)]
theorem c0v:cFun Tryz.prog 134 = some (7,k0v,s0v):=by kernel_rfl

def qcih:IC:=zr [zv 3 (.mov (.c (.str [])))]
def qchh:IC:=zr [zv 4 (zd 1 4),zv 5 (zg 1 4),zm 6 0,zv 7 (.iad 5 (.t 5) (.t 6)),zv 8 (zl 5 7),zv 9 (.bld [(.int .i64 0),(.int .i64 0),(.int .i64 0),(.str []),.nils] [(0,5,(.t 8))]),zv 10 (.mki 39 (.t 9) zN),zi 11 (zk 46 [zI 10]),zm 3 11]
def k0q:IC:=(.seq qcih (.seq qchh .ret))
@[go_sem] def s0q:List (RV×Co):=[(.t 3,.id)]
theorem c0q:cFun Tryz.prog 135 = some (12,k0q,s0q):=by kernel_rfl

def qchx:IC:=zr [zv 2 (.mov (.c (.str [])))]
def qcfj:IC:=zr [zm 3 0,zi 4 (zk 44 [((.t 3),(.sl 5)),((.c (.str [59,32])),.id),((.c (.fn 179 [] [])),.id)]),zi 5 (zk 137 [zI 4]),zm 2 5]
def k0s:IC:=(.seq qchx (.seq qcfj .ret))
@[go_sem] def s0s:List (RV×Co):=[(.t 2,.id)]
theorem c0s:cFun Tryz.prog 136 = some (6,k0s,s0s):=by kernel_rfl

def qcj3:IC:=zr [zv 2 (.mov (.c (.str [])))]
def qcf5:IC:=zr [zm 3 0,zv 4 (zq (.t 3) (.c (.str [])))]
def qcdn:IC:=zr [zv 2 (.mov (.c (.str [123,32,125])))]
def qcjp:IC:=zr [zm 5 0,zv 6 (.bin .add .no (.c (.str [123,32])) (.t 5)),zv 7 (.bin .add .no (.t 6) (.c (.str [32,125]))),zm 2 7]
def k0r:IC:=(.seq qcj3 (.seq (.seq qcf5 (.cond (.t 4) (.seq qcdn .ret) .skip)) (.seq qcjp .ret)))
@[go_sem] def s0r:List (RV×Co):=[(.t 2,.id)]
theorem c0r:cFun Tryz.prog 137 = some (8,k0r,s0r):=by kernel_rfl

def qcjz:IC:=zr [zi 1 (.box (.t 0)),zv 2 (.mov (.c (.str [])))]
def qcer:IC:=.drw [zp (zv 3 (zd 1 4)),zp (zv 4 (zg 1 3)),zp (zv 5 (.iad 5 (.t 4) (zc 0))),zp (zv 6 (zl 5 5)),(zv 7 (.bld [(.int .i64 0),(.int .i64 0),(.int .i64 0),(.str []),.nils] [(0,5,(.t 6))]),[]),(zv 8 (.mki 38 (.t 7) zN),[]),(zi 9 (zk 46 [zI 8]),[]),(zv 10 (.bin .add .no (.t 9) (.c (.str [32,45,62,32]))),[]),zp (zv 11 (zd 1 4)),(zv 12 (zg 1 11),[6]),zp (zv 13 (.iad 5 (.t 12) (zc 1))),(zv 14 (zl 5 13),[6]),(zv 15 (.bld [(.int .i64 0),(.int .i64 0),(.int .i64 0),(.str []),.nils] [(0,5,(.t 14))]),[]),(zv 16 (.mki 39 (.t 15) zN),[6]),(zi 17 (zk 46 [zI 16]),[]),zp (zv 18 (.bin .add .no (.t 10) (.t 17))),zp (zm 2 18)]
def k0u:IC:=(.seq qcjz (.seq qcer .ret))
@[go_sem] def s0u:List (RV×Co):=[(.t 2,.id)]
theorem c0u:cFun Tryz.prog 138 = some (19,k0u,s0u):=by kernel_rfl

def qch4:IC:=zr [zi 1 (.box (.t 0)),zv 2 (.mov (.c (.str [])))]
def qchd:IC:=zr [zv 3 (zl 5 1),zv 4 (.bld [(.int .i64 0),(.int .i64 0),(.int .i64 0),(.str []),.nils] [(0,5,(.t 3))]),zv 5 (.mki 37 (.t 4) zN),zi 6 (zk 46 [zI 5]),zm 2 6]
def k0n:IC:=(.seq qch4 (.seq qchd .ret))
@[go_sem] def s0n:List (RV×Co):=[(.t 2,.id)]
theorem c0n:cFun Tryz.prog 139 = some (7,k0n,s0n):=by kernel_rfl

def qcbl:IC:=zr [zv 4 (zl 5 1),zv 5 (zg 1 2),zm 6 0,zi 7 (zk 141 [zA 4,zI 5,zI 6])]
def k0cc:IC:=qcbl
@[go_sem] def s0cc:List (RV×Co):=[]
theorem c0cc:cFun Tryz.prog 140 = some (8,k0cc,s0cc):=by kernel_rfl

def qb1o:IC:=zr [zi 3 (.box (.t 0)),zv 6 zf]
def qb8s:IC:=zr [zm 9 2,zm 10 1,zv 11 (zl 5 3),zi 12 (.call (.t 9) [zI 10,zA 11]),zv 13 (.un .not (.t 12))]
def qbt6:IC:=zr [zv 6 zf]
def qbzx:IC:=zr [zv 14 (zd 3 4),zv 15 (zg 1 14),zv 16 (.len false (.t 15)),zv 17 (.mov (zc 0))]
def qbxe:IC:=zr [zv 18 (.bin .lss .no (.t 17) (.t 16))]
def qb54:IC:=zr [zv 19 (.iad 5 (.t 15) (.t 17)),zv 20 (zl 5 19),zi 8 zaN,zn (.st 5 zN (.t 8) (.t 20))]
def qb96:IC:=zr [zv 21 (zl 5 8),zm 22 1,zv 23 (.bin .add .no (.t 22) (zc 1)),zm 24 2,zi 25 (zk 141 [zA 21,zI 23,zI 24]),zv 26 (.un .not (.t 25))]
def qbvg:IC:=zr [zv 6 zf]
def qb0n:IC:=zr [zv 27 (.bin .add .no (.t 17) (zc 1)),zm 17 27]
def qb8b:IC:=(.seq qbxe (.seq (.cond (.t 18) .skip (.exit 0)) (.seq (.block 1 (.seq qb54 (.seq qb96 (.cond (.t 26) (.seq qbvg .ret) .skip)))) qb0n)))
def qbk7:IC:=zr [zv 6 (.mov (.c (.bool true)))]
def k0cb:IC:=(.seq qb1o (.seq (.seq qb8s (.cond (.t 13) (.seq qbt6 .ret) .skip)) (.seq (.seq qbzx (.block 0 (.loop qb8b))) (.seq qbk7 .ret))))
@[go_sem] def s0cb:List (RV×Co):=[(.t 6,.id)]
theorem c0cb:cFun Tryz.prog 141 = some (28,k0cb,s0cb):=by kernel_rfl

def qb4u:IC:=zr [zv 2 zf]
def qb55:IC:=zr [zm 3 0,zv 4 (.bin .geq .no (.t 3) (.c (.int .u8 97))),zm 5 4,zw 5 true 6 (zo 0),zw 5 true 7 (.bin .leq .no (.t 6) (.c (.int .u8 122))),zv 8 (.pick (.t 5) (.t 7) (.c (.bool false))),zm 9 8,zw 9 false 10 (zo 0),zw 9 false 11 (zq (.t 10) (.c (.int .u8 95))),zv 12 (.pick (.t 9) (.c (.bool true)) (.t 11)),zm 2 12]
def k0cf:IC:=(.seq qb4u (.seq qb55 .ret))
@[go_sem] def s0cf:List (RV×Co):=[(.t 2,.id)]
theorem c0cf:cFun Tryz.prog 142 = some (13,k0cf,s0cf):=by kernel_rfl

def qb8k:IC:=zr [zv 2 zf]
def qbve:IC:=zr [zm 5 0,zv 6 (.len true (.t 5)),zv 7 (.mov (zc 0))]
def qbsa:IC:=zr [zv 8 (.bin .lss .no (.t 7) (.t 6))]
def qbqm:IC:=zr [zm 9 7,zm 3 9]
def qb3b:IC:=zr [zm 10 0,zm 11 3,zv 12 (.idx (.t 10) (.t 11)),zm 4 12]
def qbwp:IC:=zr [zm 13 4,zi 14 (zk 142 [zI 13]),zv 15 (.un .not (.t 14)),zm 16 15,zw 16 true 17 (zo 4),zj 16 true 18 (zk 145 [zI 17]),zw 16 true 19 (.un .not (.t 18)),zv 20 (.pick (.t 16) (.t 19) (.c (.bool false))),zm 21 20,zw 21 true 22 (zo 4),zw 21 true 23 (.bin .lss .no (.t 22) (.c (.int .u8 48))),zw 21 true 24 (zo 23),zw 24 false 25 (zo 4),zw 24 false 26 (.bin .gtr .no (.t 25) (.c (.int .u8 57))),zw 21 true 27 (.pick (.t 24) (.c (.bool true)) (.t 26)),zv 28 (.pick (.t 21) (.t 27) (.c (.bool false))),zm 29 28,zw 29 true 30 (zo 4),zw 29 true 31 (.bin .neq .no (.t 30) (.c (.int .u8 39))),zv 32 (.pick (.t 29) (.t 31) (.c (.bool false)))]
def qb6e:IC:=zr [zv 2 zf]
def qbrq:IC:=zr [zv 33 (.bin .add .no (.t 7) (zc 1)),zm 7 33]
def qb84:IC:=(.seq qbsa (.seq (.cond (.t 8) .skip (.exit 0)) (.seq (.block 1 (.seq qbqm (.seq qb3b (.seq qbwp (.cond (.t 32) (.seq qb6e .ret) .skip))))) qbrq)))
def qbl3:IC:=zr [zv 2 (.mov (.c (.bool true)))]
def k0ch:IC:=(.seq qb8k (.seq (.seq qbve (.block 0 (.loop qb84))) (.seq qbl3 .ret)))
@[go_sem] def s0ch:List (RV×Co):=[(.t 2,.id)]
theorem c0ch:cFun Tryz.prog 143 = some (34,k0ch,s0ch):=by kernel_rfl

def qbvy:IC:=zr [zv 2 zf]
def qbu7:IC:=zr [zv 3 zf]
def qb4f:IC:=zr [zv 6 (.bld [(.str []),(.str []),(.str []),(.str []),(.str []),(.str []),(.str []),(.str []),(.str []),(.str []),(.str [])] [(0,1,(.c (.str [100,97,116,97]))),(1,1,(.c (.str [99,108,97,115,115]))),(2,1,(.c (.str [105,110,115,116,97,110,99,101]))),(3,1,(.c (.str [119,104,101,114,101]))),(4,1,(.c (.str [108,101,116]))),(5,1,(.c (.str [105,110]))),(6,1,(.c (.str [99,97,115,101]))),(7,1,(.c (.str [111,102]))),(8,1,(.c (.str [105,102]))),(9,1,(.c (.str [116,104,101,110]))),(10,1,(.c (.str [101,108,115,101])))]),zv 7 (.mov (zc 0))]
def qby3:IC:=zr [zv 8 (.bin .lss .no (.t 7) (zc 11))]
def qbuf:IC:=zr [zv 9 (.ida false 1 11 (.t 6) (.t 7)),zm 5 9]
def qb5w:IC:=zr [zm 10 5,zm 11 0,zv 12 (.bin .neq .no (.t 10) (.t 11))]
def qbqn:IC:=zr [zv 3 (.mov (.c (.bool true)))]
def qb3p:IC:=zr [zv 13 (.bin .add .no (.t 7) (zc 1)),zm 7 13]
def qcbq:IC:=(.seq qby3 (.seq (.cond (.t 8) .skip (.exit 0)) (.seq (.block 1 (.seq qbuf (.seq (.seq qb5w (.cond (.t 12) (.exit 1) .skip)) (.seq qbqn (.exit 0))))) qb3p)))
def qbjh:IC:=zr [zm 14 3,zm 2 14]
def k0ci:IC:=(.seq qbvy (.scope (.seq qbu7 (.seq (.label 0) (.seq (.seq qb4f (.block 0 (.loop qcbq))) (.seq qbjh .ret))))))
@[go_sem] def s0ci:List (RV×Co):=[(.t 2,.id)]
theorem c0ci:cFun Tryz.prog 144 = some (15,k0ci,s0ci):=by kernel_rfl

def qcao:IC:=zr [zv 2 zf]
def qb3y:IC:=zr [zm 3 0,zv 4 (.bin .geq .no (.t 3) (.c (.int .u8 65))),zm 5 4,zw 5 true 6 (zo 0),zw 5 true 7 (.bin .leq .no (.t 6) (.c (.int .u8 90))),zv 8 (.pick (.t 5) (.t 7) (.c (.bool false))),zm 2 8]
def k0cg:IC:=(.seq qcao (.seq qb3y .ret))
@[go_sem] def s0cg:List (RV×Co):=[(.t 2,.id)]
theorem c0cg:cFun Tryz.prog 145 = some (9,k0cg,s0cg):=by kernel_rfl

def qbtp:IC:=zr [zv 2 (.mov (.c .nils)),zv 3 zf]
def qb75:IC:=zr [zm 9 0,zi 10 (zk 180 [zI 9,((.c (.str [61,62])),.id)]),zv 11 (.un .not (.t 10))]
def qbxs:IC:=zr [zm 12 0,zi 13 (zk 181 [zI 12]),zv 14 (.un .not (.t 13)),zv 2 (.mov (.c .nils)),zm 3 14]
def qb3n:IC:=zr [zv 4 (.mov (.c .nils))]
def qbsi:IC:=zr [zm 15 0,zi 16 (zk 105 [zI 15,((.c (.str [40])),.id)]),zm 5 16]
def qb31:IC:=zr [zm 17 5,zv 18 (.un .not (.t 17)),zm 19 18,zw 19 false 20 (zo 0),zj 19 false 21 (zk 155 [zI 20,((.c (.str [41])),.id)]),zw 19 false 22 (.un .not (.t 21)),zv 23 (.pick (.t 19) (.c (.bool true)) (.t 22)),zm 6 23]
def qb2h:IC:=zr [zm 24 6]
def qbrp:IC:=zr [zm 26 0,zi 27 (zk 182 [zI 26]),zm 25 27,zv 28 (zx 25 0),zv 29 (zx 25 1),zi 7 zaN,zn (.st 5 zN (.t 7) (.t 28)),zm 8 29]
def qbq1:IC:=zr [zm 30 8,zv 31 (.un .not (.t 30))]
def qbj3:IC:=zr [zv 2 (.mov (.c .nils)),zv 3 zf]
def qbnb:IC:=zr [zm 32 4,zv 33 (zl 5 7),zv 34 (.bsl 5 [zA 33]),zi 35 (.app 5 zZ 64 (.sl 5) (.t 32) (.t 34)),zm 4 35]
def qbop:IC:=zr [zm 36 5,zm 37 36,zw 37 true 38 (zo 0),zj 37 true 39 (zk 105 [zI 38,((.c (.str [44])),.id)]),zv 40 (.pick (.t 37) (.t 39) (.c (.bool false))),zm 6 40]
def qbwb:IC:=(.seq (.seq qb2h (.cond (.t 24) .skip (.exit 0))) (.block 1 (.seq qbrp (.seq (.seq qbq1 (.cond (.t 31) (.seq qbj3 .ret) .skip)) (.seq qbnb qbop)))))
def qbky:IC:=zr [zm 41 5,zm 42 41,zw 42 true 43 (zo 0),zj 42 true 44 (zk 156 [zI 43,((.c (.str [41])),.id)]),zw 42 true 45 (.un .not (.t 44)),zv 46 (.pick (.t 42) (.t 45) (.c (.bool false))),zm 47 46,zw 47 false 48 (zo 0),zj 47 false 49 (zk 156 [zI 48,((.c (.str [61,62])),.id)]),zw 47 false 50 (.un .not (.t 49)),zv 51 (.pick (.t 47) (.c (.bool true)) (.t 50))]
def qbiz:IC:=zr [zv 2 (.mov (.c .nils)),zv 3 zf]
def qbm0:IC:=zr [zm 52 4,zm 2 52,zv 3 (.mov (.c (.bool true)))]
def k0dv:IC:=(.seq qbtp (.seq (.seq qb75 (.cond (.t 11) (.seq qbxs .ret) .skip)) (.seq qb3n (.seq qbsi (.seq (.seq qb31 (.block 0 (.loop qbwb))) (.seq (.seq qbky (.cond (.t 51) (.seq qbiz .ret) .skip)) (.seq qbm0 .ret)))))))
@[go_sem] def s0dv:List (RV×Co):=[(.t 2,(.sl 5)),(.t 3,.id)]
theorem c0dv:cFun Tryz.prog 146 = some (53,k0dv,s0dv):=by kernel_rfl

def qbug:IC:=zr [zi 4 (.box (.t 1)),zi 6 zaN,zv 7 zf]
def qb6i:IC:=zr [zm 8 2,zv 9 (.un .not (.t 8))]
def qbqh:IC:=zr [zv 10 (.bld [(.int .i64 0),(.int .i64 0),(.int .i64 0),(.str []),.nils] []),zn (.st 5 zN (.t 6) (.t 10)),zv 7 zf]
def qb0b:IC:=zr [zv 11 (zl 5 4),zn (.st 5 zN (.t 6) (.t 11)),zv 7 (.mov (.c (.bool true)))]
def k0dy:IC:=(.seq qbug (.seq (.seq qb6i (.cond (.t 9) (.seq qbqh .ret) .skip)) (.seq qb0b .ret)))
@[go_sem] def s0dy:List (RV×Co):=[(.c true 5 6,zN),(.t 7,.id)]
theorem c0dy:cFun Tryz.prog 147 = some (12,k0dy,s0dy):=by kernel_rfl

def qb27:IC:=zr [zi 2 zaN,zv 3 zf]
def qb78:IC:=zr [zm 8 0,zi 9 (zk 66 [zI 8]),zv 10 (.fld false 1 0 (.t 9)),zv 11 (.bin .neq .no (.t 10) (zc 2))]
def qb5v:IC:=zr [zm 12 0,zi 13 (zk 165 [zI 12]),zv 14 (zx 13 0),zv 15 (zx 13 1),zn (.st 5 zN (.t 2) (.t 14)),zm 3 15]
def qb4n:IC:=zr [zm 16 0,zi 17 (zk 154 [zI 16]),zi 4 zaT,zn (.st 4 .id (.t 4) (.t 17))]
def qbwe:IC:=zr [zv 18 (zd 4 1),zv 19 (zg 1 18),zv 20 (zd 4 3),zv 21 (zg 1 20),zv 22 (.bld [(.int .i64 0),(.int .i64 0),(.int .i64 0),(.str []),.nils] [(0,1,(zc 2)),(1,1,(.t 19)),(3,1,(.t 21))]),zi 5 zaN,zn (.st 5 zN (.t 5) (.t 22))]
def qb8c:IC:=zr [zm 23 0,zi 24 (zk 183 [zI 23])]
def qcav:IC:=zr [zm 26 0,zi 27 (zk 165 [zI 26]),zm 25 27,zv 28 (zx 25 0),zv 29 (zx 25 1),zi 6 zaN,zn (.st 5 zN (.t 6) (.t 28)),zm 7 29]
def qby0:IC:=zr [zm 30 7,zv 31 (.un .not (.t 30))]
def qbuw:IC:=zr [zv 32 (.bld [(.int .i64 0),(.int .i64 0),(.int .i64 0),(.str []),.nils] []),zn (.st 5 zN (.t 2) (.t 32)),zv 3 zf]
def qbnf:IC:=zr [zv 33 (zd 5 4),zv 34 (zg 1 33),zv 35 (zl 5 6),zv 36 (.bsl 5 [zA 35]),zi 37 (.app 5 zZ 64 (.sl 5) (.t 34) (.t 36)),zv 38 (zd 5 4),zn (.st 1 (.sl 5) (.t 38) (.t 37))]
def qbu4:IC:=(.seq (.seq qb8c (.cond (.t 24) .skip (.exit 0))) (.block 1 (.seq qcav (.seq (.seq qby0 (.cond (.t 31) (.seq qbuw .ret) .skip)) qbnf))))
def qbi8:IC:=zr [zv 39 (zl 5 5),zn (.st 5 zN (.t 2) (.t 39)),zv 3 (.mov (.c (.bool true)))]
def k0eb:IC:=(.seq qb27 (.seq (.seq qb78 (.cond (.t 11) (.seq qb5v .ret) .skip)) (.seq qb4n (.seq qbwe (.seq (.block 0 (.loop qbu4)) (.seq qbi8 .ret))))))
@[go_sem] def s0eb:List (RV×Co):=[(.c true 5 2,zN),(.t 3,.id)]
theorem c0eb:cFun Tryz.prog 148 = some (40,k0eb,s0eb):=by kernel_rfl

def qbv0:IC:=zr [zv 6 (zg 1 1),zi 7 (zk 150 [zI 6]),zm 3 7]
def qbtw:IC:=zr [zm 8 3,zv 9 (zg 1 1),zv 10 (.len true (.t 9)),zv 11 (.bin .lss .no (.t 8) (.t 10))]
def qb6u:IC:=zr [zv 13 (zg 1 1),zm 14 3,zv 15 (.sls (.t 13) (some (.t 14)) none),zi 16 (zk 151 [zI 15]),zm 12 16,zv 17 (zx 12 0),zv 18 (zx 12 1),zi 4 zaT,zn (.st 4 .id (.t 4) (.t 17)),zm 5 18]
def qcau:IC:=zr [zm 19 3,zv 20 (zd 4 1),zn (.st 1 .id (.t 20) (.t 19))]
def qbsz:IC:=zr [zm 21 0,zv 22 (zl 4 4),zm 23 5,zi 24 (.call (.t 21) [zI 22,zI 23]),zv 25 (.un .not (.t 24))]
def qb7u:IC:=zr [zm 26 3,zv 27 (zd 4 3),zv 28 (zg 1 27),zv 29 (.len true (.t 28)),zv 30 (.bin .add .no (.t 26) (.t 29)),zm 3 30]
def qbu9:IC:=zr [zm 31 3,zv 32 (zg 1 1),zm 33 3,zv 34 (.sls (.t 32) (some (.t 33)) none),zi 35 (zk 150 [zI 34]),zv 36 (.bin .add .no (.t 31) (.t 35)),zm 3 36]
def qbqy:IC:=(.seq (.seq qbtw (.cond (.t 11) .skip (.exit 0))) (.block 1 (.seq qb6u (.seq qcau (.seq (.seq qbsz (.cond (.t 25) .ret .skip)) (.seq qb7u qbu9))))))
def k0cr:IC:=(.seq qbv0 (.block 0 (.loop qbqy)))
@[go_sem] def s0cr:List (RV×Co):=[]
theorem c0cr:cFun Tryz.prog 149 = some (37,k0cr,s0cr):=by kernel_rfl

def qb77:IC:=zr [zv 2 (.mov (zc 0))]
def qcbv:IC:=zr [zv 3 (.mov (zc 0))]
def qb0m:IC:=zr [zm 5 0,zm 6 3,zv 7 (.sls (.t 5) (some (.t 6)) none),zi 8 (zk 184 [zI 7,((.c (.fn 185 [] [])),.id)]),zm 4 8]
def qbuz:IC:=zr [zm 9 0,zm 10 3,zm 11 4,zv 12 (.bin .add .no (.t 10) (.t 11)),zv 13 (.sls (.t 9) (some (.t 12)) none),zi 14 (zk 186 [zI 13,((.c (.str [45,45])),.id)])]
def qbwc:IC:=zr [zm 15 4,zm 16 0,zm 17 3,zm 18 4,zv 19 (.bin .add .no (.t 17) (.t 18)),zv 20 (.sls (.t 16) (some (.t 19)) none),zi 21 (zk 184 [zI 20,((.c (.fn 187 [] [])),.id)]),zv 22 (.bin .add .no (.t 15) (.t 21)),zm 4 22]
def qcap:IC:=zr [zm 23 4,zv 24 (zq (.t 23) (zc 0))]
def qbww:IC:=zr [zm 25 3,zm 2 25]
def qb9e:IC:=zr [zm 26 3,zm 27 4,zv 28 (.bin .add .no (.t 26) (.t 27)),zm 3 28]
def qbxu:IC:=(.block 1 (.seq qb0m (.seq (.seq qbuz (.cond (.t 14) qbwc .skip)) (.seq (.seq qcap (.cond (.t 24) (.seq qbww .ret) .skip)) qb9e))))
def k0dc:IC:=(.seq qb77 (.seq qcbv (.block 0 (.loop qbxu))))
@[go_sem] def s0dc:List (RV×Co):=[(.t 2,.id)]
theorem c0dc:cFun Tryz.prog 150 = some (29,k0dc,s0dc):=by kernel_rfl

def qbvm:IC:=zr [zi 2 zaT,zv 3 (.mov (zc 0))]
def qbv8:IC:=zr [zm 9 0,zv 10 (.idx (.t 9) (zc 0)),zm 4 10]
def qb67:IC:=zr [zm 12 4,zi 13 (zk 188 [zI 12]),zm 11 13]
def qcam:IC:=zr [zm 14 0,zm 15 0,zi 16 (zk 184 [zI 15,((.c (.fn 188 [] [])),.id)]),zv 17 (.sls (.t 14) none (some (.t 16))),zm 5 17]
def qcbm:IC:=zr [zm 19 5,zi 20 (zk 189 [zI 19]),zm 18 20,zv 21 (zx 18 0),zv 22 (zx 18 1),zm 6 21,zm 7 22]
def qbq7:IC:=zr [zm 23 6,zm 24 5,zv 25 (.bld [(.int .i64 0),(.int .i64 0),(.int .i64 0),(.str [])] [(0,1,(zc 3)),(2,1,(.t 23)),(3,1,(.t 24))]),zm 26 7,zn (.st 4 .id (.t 2) (.t 25)),zm 3 26]
def qb98:IC:=zr [zm 28 4,zi 29 (zk 190 [zI 28]),zm 30 29,zw 30 true 31 (zo 4),zw 30 true 32 (.bin .neq .no (.t 31) (.c (.int .u8 39))),zv 33 (.pick (.t 30) (.t 32) (.c (.bool false))),zm 27 33]
def qb64:IC:=zr [zm 34 0,zm 35 0,zi 36 (zk 184 [zI 35,((.c (.fn 190 [] [])),.id)]),zv 37 (.sls (.t 34) none (some (.t 36))),zi 38 (zk 191 [zI 37]),zn (.st 4 .id (.t 2) (.t 38)),zv 3 (.mov (zc 0))]
def qbtl:IC:=zr [zm 39 0,zi 40 (zk 192 [zI 39]),zm 8 40]
def qb6f:IC:=zr [zm 41 8,zv 42 (zq (.t 41) (zc 0))]
def qbhx:IC:=zr [zv 43 (.bld [(.int .i64 0),(.int .i64 0),(.int .i64 0),(.str [])] []),zn (.st 4 .id (.t 2) (.t 43)),zv 3 (.mov (zc 3))]
def qbmp:IC:=zr [zm 44 0,zm 45 8,zv 46 (.sls (.t 44) none (some (.t 45))),zv 47 (.bld [(.int .i64 0),(.int .i64 0),(.int .i64 0),(.str [])] [(0,1,(zc 5)),(3,1,(.t 46))]),zn (.st 4 .id (.t 2) (.t 47)),zv 3 (.mov (zc 0))]
def k0cu:IC:=(.seq qbvm (.seq (.seq qbv8 (.block 0 (.seq qb67 (.cond (.t 11) (.seq qcam (.seq qcbm (.seq qbq7 .ret))) (.seq qb98 (.cond (.t 27) (.seq qb64 .ret) .skip)))))) (.seq qbtl (.seq (.seq qb6f (.cond (.t 42) (.seq qbhx .ret) .skip)) (.seq qbmp .ret)))))
@[go_sem] def s0cu:List (RV×Co):=[(.c true 4 2,.id),(.t 3,.id)]
theorem c0cu:cFun Tryz.prog 151 = some (48,k0cu,s0cu):=by kernel_rfl

def qb6x:IC:=zr [zv 4 zf]
def qb9z:IC:=zr [zm 5 0,zi 6 (zk 109 [zI 5]),zv 7 (.un .not (.t 6))]
def qbx8:IC:=zr [zm 8 1,zv 9 (zq (.t 8) (zc 0))]
def qcax:IC:=zr [zv 1 (.mov (zc 1))]
def qbvf:IC:=zr [zm 10 0,zm 11 0,zi 12 (zk 66 [zI 11]),zv 13 (.fld false 1 1 (.t 12)),zv 14 (.nck (.t 10)),zv 15 (zd 14 8),zn (.st 1 .id (.t 15) (.t 13))]
def qb6h:IC:=zr [zm 16 0,zm 17 1,zv 18 (.nck (.t 16)),zv 19 (zd 18 7),zn (.st 1 .id (.t 19) (.t 17))]
def qb58:IC:=zr [zv 4 zf]
def k0ej:IC:=(.seq qb6x (.seq (.seq qb9z (.cond (.t 7) (.seq (.seq qbx8 (.cond (.t 9) qcax .skip)) (.seq qbvf qb6h)) .skip)) (.seq qb58 .ret)))
@[go_sem] def s0ej:List (RV×Co):=[(.t 4,.id)]
theorem c0ej:cFun Tryz.prog 152 = some (20,k0ej,s0ej):=by kernel_rfl

def qbum:IC:=zr [zi 2 zaN,zv 3 zf]
def qbu8:IC:=zr [zm 6 0,zi 7 (zk 66 [zI 6]),zi 4 zaT,zn (.st 4 .id (.t 4) (.t 7))]
def qbzj:IC:=zr [zv 8 (zd 4 1),zv 9 (zg 1 8),zv 10 (zd 4 3),zv 11 (zg 1 10),zv 12 (.bld [(.int .i64 0),(.int .i64 0),(.int .i64 0),(.str []),.nils] [(1,1,(.t 9)),(3,1,(.t 11))]),zi 5 zaN,zn (.st 5 zN (.t 5) (.t 12))]
def qb2m:IC:=zr [zv 15 (zd 4 0),zv 16 (zg 1 15),zv 17 (zq (.t 16) (zc 1)),zm 14 17]
def qb06:IC:=zr [zv 18 (zd 5 0),zn (.st 1 .id (.t 18) (zc 11))]
def qcbe:IC:=zr [zv 20 (zd 4 0),zv 21 (zg 1 20),zv 22 (zq (.t 21) (zc 2)),zm 19 22]
def qbus:IC:=zr [zv 23 (zd 5 0),zn (.st 1 .id (.t 23) (zc 14))]
def qbq0:IC:=zr [zv 25 (zd 4 0),zv 26 (zg 1 25),zv 27 (zq (.t 26) (zc 3)),zm 24 27]
def qb08:IC:=.drw [zp (zv 28 (zd 4 2)),zp (zv 29 (zg 1 28)),zp (zv 30 (zd 5 0)),(zn (.st 1 .id (.t 30) (zc 13)),[1]),zp (zv 31 (zd 5 2)),(zn (.st 1 .id (.t 31) (.t 29)),[]),zp (zv 32 (zd 5 3)),(zn (.st 1 .id (.t 32) (.c (.str []))),[])]
def qbw3:IC:=zr [zm 34 0,zi 35 (zk 155 [zI 34,((.c (.str [95])),.id)]),zm 33 35]
def qbm1:IC:=zr [zv 36 (zd 5 0),zn (.st 1 .id (.t 36) (zc 12)),zv 37 (zd 5 3),zn (.st 1 .id (.t 37) (.c (.str [])))]
def qbjs:IC:=zr [zv 13 (.bld [(.int .i64 0),(.int .i64 0),(.int .i64 0),(.str []),.nils] []),zn (.st 5 zN (.t 2) (.t 13)),zv 3 zf]
def qbkh:IC:=zr [zv 38 (zl 5 5),zn (.st 5 zN (.t 2) (.t 38)),zv 3 (.mov (.c (.bool true)))]
def k0dq:IC:=(.seq qbum (.seq qbu8 (.seq qbzj (.seq (.block 0 (.seq qb2m (.cond (.t 14) qb06 (.seq qcbe (.cond (.t 19) qbus (.seq qbq0 (.cond (.t 24) qb08 (.seq qbw3 (.cond (.t 33) qbm1 (.seq qbjs .ret)))))))))) (.seq qbkh .ret)))))
@[go_sem] def s0dq:List (RV×Co):=[(.c true 5 2,zN),(.t 3,.id)]
theorem c0dq:cFun Tryz.prog 153 = some (39,k0dq,s0dq):=by kernel_rfl

def qbv3:IC:=zr [zi 2 zaT]
def qcb2:IC:=zr [zm 4 0,zi 5 (zk 66 [zI 4]),zi 3 zaT,zn (.st 4 .id (.t 3) (.t 5))]
def qbyd:IC:=.drw [zp (zm 6 0),(zi 7 (zk 109 [zI 6]),[]),zp (zv 8 (.un .not (.t 7))),zp (zm 9 8),zp (zw 9 true 10 (zo 0)),zp (zw 9 true 11 (.nck (.t 10))),zp (zw 9 true 12 (zd 11 5)),zp (zw 9 true 13 (zg 1 12)),zp (zw 9 true 14 (zo 0)),zp (zw 9 true 15 (.nck (.t 14))),zp (zw 9 true 16 (zd 15 0)),zp (zw 9 true 17 (zg 1 16)),zp (zw 9 true 18 (.len false (.t 17))),zp (zw 9 true 19 (.bin .lss .no (.t 13) (.t 18))),zp (zv 20 (.pick (.t 9) (.t 19) (.c (.bool false))))]
def qca9:IC:=zr [zm 21 0,zv 22 (.nck (.t 21)),zv 23 (zd 22 5),zv 24 (zg 1 23),zv 25 (.bin .add .no (.t 24) (zc 1)),zv 26 (.nck (.t 21)),zv 27 (zd 26 5),zn (.st 1 .id (.t 27) (.t 25))]
def qcag:IC:=zr [zv 28 (zl 4 3),zn (.st 4 .id (.t 2) (.t 28))]
def k0eh:IC:=(.seq qbv3 (.seq qcb2 (.seq (.seq qbyd (.cond (.t 20) qca9 .skip)) (.seq qcag .ret))))
@[go_sem] def s0eh:List (RV×Co):=[(.c true 4 2,.id)]
theorem c0eh:cFun Tryz.prog 154 = some (29,k0eh,s0eh):=by kernel_rfl

def qbt3:IC:=zr [zv 4 zf]
def qb2l:IC:=zr [zm 5 0,zi 6 (zk 109 [zI 5]),zv 7 (.un .not (.t 6)),zm 8 7,zw 8 true 9 (zo 0),zj 8 true 10 (zk 66 [zI 9]),zw 8 true 11 (zo 1),zw 8 true 12 (.bsl 1 [zI 11]),zj 8 true 13 (zk 193 [zI 10,((.t 12),(.sl 1))]),zv 14 (.pick (.t 8) (.t 13) (.c (.bool false))),zm 4 14]
def k0ei:IC:=(.seq qbt3 (.seq qb2l .ret))
@[go_sem] def s0ei:List (RV×Co):=[(.t 4,.id)]
theorem c0ei:cFun Tryz.prog 155 = some (15,k0ei,s0ei):=by kernel_rfl

def qbz2:IC:=zr [zv 4 zf]
def qbr9:IC:=zr [zm 5 0,zm 6 1,zi 7 (zk 105 [zI 5,zI 6]),zm 8 7,zw 8 false 9 (zo 0),zj 8 false 10 (zk 152 [zI 9,((zc 5),.id)]),zv 11 (.pick (.t 8) (.c (.bool true)) (.t 10)),zm 4 11]
def k0el:IC:=(.seq qbz2 (.seq qbr9 .ret))
@[go_sem] def s0el:List (RV×Co):=[(.t 4,.id)]
theorem c0el:cFun Tryz.prog 156 = some (12,k0el,s0el):=by kernel_rfl

def qbzp:IC:=zr [zi 1 (.box (.t 0)),zv 2 zf]
def qbvp:IC:=zr [zv 4 (zd 1 4),zv 5 (zg 1 4),zv 6 (.len false (.t 5)),zv 7 (.bin .sub .no (.t 6) (zc 1)),zm 3 7]
def qbv1:IC:=zr [zv 8 (zd 1 0),zv 9 (zg 1 8),zv 10 (zq (.t 9) (zc 4)),zm 11 10,zw 11 true 12 (zl 5 1),zj 11 true 13 (zk 67 [zA 12]),zv 14 (.pick (.t 11) (.t 13) (.c (.bool false))),zm 15 14,zw 15 true 16 (zo 3),zw 15 true 17 (.bin .geq .no (.t 16) (zc 0)),zv 18 (.pick (.t 15) (.t 17) (.c (.bool false))),zm 19 18,zw 19 true 20 (zd 1 4),zw 19 true 21 (zg 1 20),zw 19 true 22 (zo 3),zw 19 true 23 (.slv 5 (.t 21) none (some (.t 22)) none),zj 19 true 24 (zk 68 [((.t 23),(.sl 5)),((.c (.fn 112 [] [])),.id)]),zv 25 (.pick (.t 19) (.t 24) (.c (.bool false))),zm 26 25,zw 26 true 27 (zd 1 4),zw 26 true 28 (zg 1 27),zw 26 true 29 (zo 3),zw 26 true 30 (.iad 5 (.t 28) (.t 29)),zw 26 true 31 (zl 5 30),zj 26 true 32 (zk 48 [zA 31]),zv 33 (.pick (.t 26) (.t 32) (.c (.bool false))),zm 2 33]
def k0bt:IC:=(.seq qbzp (.seq qbvp (.seq qbv1 .ret)))
@[go_sem] def s0bt:List (RV×Co):=[(.t 2,.id)]
theorem c0bt:cFun Tryz.prog 157 = some (34,k0bt,s0bt):=by kernel_rfl

def qb9o:IC:=zr [zi 4 zaN,zv 5 zf]
def qbxz:IC:=zr [zm 9 0,zi 10 (zk 66 [zI 9]),zv 11 (.fld false 1 0 (.t 10)),zv 12 (.bin .neq .no (.t 11) (zc 1))]
def qb70:IC:=zr [zm 13 0,zm 14 1,zi 15 (zk 156 [zI 13,zI 14]),zv 16 (.un .not (.t 15))]
def qb38:IC:=zr [zv 17 (.bld [(.int .i64 0),(.int .i64 0),(.int .i64 0),(.str []),.nils] []),zn (.st 5 zN (.t 4) (.t 17)),zv 5 zf]
def qbsw:IC:=zr [zm 18 0,zi 19 (zk 58 [zI 18]),zv 20 (zx 19 0),zv 21 (zx 19 1),zn (.st 5 zN (.t 4) (.t 20)),zm 5 21]
def qbsq:IC:=zr [zm 22 0,zi 23 (zk 154 [zI 22]),zi 6 zaT,zn (.st 4 .id (.t 6) (.t 23))]
def qb1z:IC:=zr [zm 25 0,zm 26 1,zi 27 (zk 158 [zI 25,zI 26]),zm 24 27,zv 28 (zx 24 0),zv 29 (zx 24 1),zi 7 zaN,zn (.st 5 zN (.t 7) (.t 28)),zm 8 29]
def qca2:IC:=zr [zv 30 (zd 6 1),zv 31 (zg 1 30),zv 32 (zd 6 3),zv 33 (zg 1 32),zv 34 (zl 5 7),zv 35 (.bsl 5 [zA 34]),zv 36 (.bld [(.int .i64 0),(.int .i64 0),(.int .i64 0),(.str []),.nils] [(0,1,(zc 25)),(1,1,(.t 31)),(3,1,(.t 33)),(4,1,(.t 35))]),zm 37 8,zn (.st 5 zN (.t 4) (.t 36)),zm 5 37]
def k0dl:IC:=(.seq qb9o (.seq (.seq qbxz (.cond (.t 12) (.seq (.seq qb70 (.cond (.t 16) (.seq qb38 .ret) .skip)) (.seq qbsw .ret)) .skip)) (.seq qbsq (.seq qb1z (.seq qca2 .ret)))))
@[go_sem] def s0dl:List (RV×Co):=[(.c true 5 4,zN),(.t 5,.id)]
theorem c0dl:cFun Tryz.prog 158 = some (38,k0dl,s0dl):=by kernel_rfl

def qb4w:IC:=zr [zi 2 (.box (.t 0)),zi 3 (.box (.t 1)),zi 4 zaN,zv 5 zf]
def qb03:IC:=zr [zv 10 (zg 1 2),zv 11 (.mfn 195 [] [(.t 2)]),zi 12 (zk 194 [zI 10,zI 11]),zm 9 12,zv 13 (zx 9 0),zv 14 (zx 9 1),zm 6 13,zm 7 14]
def qb0o:IC:=zr [zm 15 7,zv 16 (.un .not (.t 15)),zm 17 16,zw 17 false 18 (zg 1 2),zj 17 false 19 (zk 156 [zI 18,((.c (.str [105,110])),.id)]),zw 17 false 20 (.un .not (.t 19)),zv 21 (.pick (.t 17) (.c (.bool true)) (.t 20))]
def qbr5:IC:=zr [zv 22 (zl 5 3),zn (.st 5 zN (.t 4) (.t 22)),zv 5 zf]
def qb52:IC:=zr [zv 24 (zg 1 2),zi 25 (zk 58 [zI 24]),zm 23 25,zv 26 (zx 23 0),zv 27 (zx 23 1),zi 8 zaN,zn (.st 5 zN (.t 8) (.t 26)),zm 7 27]
def qb9q:IC:=zr [zm 28 6,zv 29 (zl 5 8),zv 30 (.bsl 5 [zA 29]),zi 31 (.app 5 zZ 64 (.sl 5) (.t 28) (.t 30)),zv 32 (zd 3 0),zn (.st 1 .id (.t 32) (zc 26)),zv 33 (zd 3 4),zn (.st 1 (.sl 5) (.t 33) (.t 31))]
def qcba:IC:=zr [zv 34 (zl 5 3),zm 35 7,zn (.st 5 zN (.t 4) (.t 34)),zm 5 35]
def k0de:IC:=(.seq qb4w (.seq qb03 (.seq (.seq qb0o (.cond (.t 21) (.seq qbr5 .ret) .skip)) (.seq qb52 (.seq qb9q (.seq qcba .ret))))))
@[go_sem] def s0de:List (RV×Co):=[(.c true 5 4,zN),(.t 5,.id)]
theorem c0de:cFun Tryz.prog 159 = some (36,k0de,s0de):=by kernel_rfl

def qbu1:IC:=zr [zi 2 (.box (.t 0)),zi 3 (.box (.t 1)),zi 4 zaN,zv 5 zf]
def qbtt:IC:=zr [zv 10 (zg 1 2),zi 11 (zk 58 [zI 10]),zm 9 11,zv 12 (zx 9 0),zv 13 (zx 9 1),zi 6 zaN,zn (.st 5 zN (.t 6) (.t 12)),zm 7 13]
def qb8z:IC:=zr [zm 14 7,zv 15 (.un .not (.t 14)),zm 16 15,zw 16 false 17 (zg 1 2),zj 16 false 18 (zk 156 [zI 17,((.c (.str [111,102])),.id)]),zw 16 false 19 (.un .not (.t 18)),zv 20 (.pick (.t 16) (.c (.bool true)) (.t 19))]
def qb73:IC:=zr [zv 21 (zl 5 3),zn (.st 5 zN (.t 4) (.t 21)),zv 5 zf]
def qb30:IC:=zr [zv 23 (zg 1 2),zv 24 (.mfn 196 [] [(.t 2)]),zi 25 (zk 194 [zI 23,zI 24]),zm 22 25,zv 26 (zx 22 0),zv 27 (zx 22 1),zm 8 26,zm 7 27]
def qbxd:IC:=zr [zv 28 (zl 5 6),zv 29 (.bsl 5 [zA 28]),zm 30 8,zi 31 (.app 5 zZ 64 (.sl 5) (.t 29) (.t 30)),zv 32 (zd 3 0),zn (.st 1 .id (.t 32) (zc 27)),zv 33 (zd 3 4),zn (.st 1 (.sl 5) (.t 33) (.t 31))]
def qbxv:IC:=zr [zv 34 (zl 5 3),zm 35 7,zn (.st 5 zN (.t 4) (.t 34)),zm 5 35]
def k0df:IC:=(.seq qbu1 (.seq qbtt (.seq (.seq qb8z (.cond (.t 20) (.seq qb73 .ret) .skip)) (.seq qb30 (.seq qbxd (.seq qbxv .ret))))))
@[go_sem] def s0df:List (RV×Co):=[(.c true 5 4,zN),(.t 5,.id)]
theorem c0df:cFun Tryz.prog 160 = some (36,k0df,s0df):=by kernel_rfl

def qb76:IC:=zr [zi 3 (.box (.t 1)),zi 4 zaN,zv 5 zf]
def qbzn:IC:=zr [zv 10 (zd 3 0),zn (.st 1 .id (.t 10) (zc 28))]
def qbq6:IC:=zr [zv 11 (.bld [(.str []),(.str []),(.str [])] [(0,1,(.c (.str []))),(1,1,(.c (.str [116,104,101,110]))),(2,1,(.c (.str [101,108,115,101])))]),zv 12 (.mov (zc 0))]
def qb4x:IC:=zr [zv 13 (.bin .lss .no (.t 12) (zc 3))]
def qb5u:IC:=zr [zv 14 (.ida false 1 3 (.t 11) (.t 12)),zm 7 14]
def qbxn:IC:=zr [zm 15 7,zv 16 (.bin .neq .no (.t 15) (.c (.str []))),zm 17 16,zw 17 true 18 (zo 0),zw 17 true 19 (zo 7),zj 17 true 20 (zk 156 [zI 18,zI 19]),zw 17 true 21 (.un .not (.t 20)),zv 22 (.pick (.t 17) (.t 21) (.c (.bool false)))]
def qb5a:IC:=zr [zv 23 (zl 5 3),zn (.st 5 zN (.t 4) (.t 23)),zv 5 zf]
def qb71:IC:=zr [zm 25 0,zi 26 (zk 58 [zI 25]),zm 24 26,zv 27 (zx 24 0),zv 28 (zx 24 1),zi 8 zaN,zn (.st 5 zN (.t 8) (.t 27)),zm 9 28]
def qbz7:IC:=zr [zm 29 9,zv 30 (.un .not (.t 29))]
def qbhq:IC:=zr [zv 31 (zl 5 3),zn (.st 5 zN (.t 4) (.t 31)),zv 5 zf]
def qbnv:IC:=zr [zv 32 (zd 3 4),zv 33 (zg 1 32),zv 34 (zl 5 8),zv 35 (.bsl 5 [zA 34]),zi 36 (.app 5 zZ 64 (.sl 5) (.t 33) (.t 35)),zv 37 (zd 3 4),zn (.st 1 (.sl 5) (.t 37) (.t 36))]
def qbiu:IC:=zr [zv 38 (.bin .add .no (.t 12) (zc 1)),zm 12 38]
def qb2r:IC:=(.seq qb4x (.seq (.cond (.t 13) .skip (.exit 0)) (.seq (.block 1 (.seq qb5u (.seq (.seq qbxn (.cond (.t 22) (.seq qb5a .ret) .skip)) (.seq qb71 (.seq (.seq qbz7 (.cond (.t 30) (.seq qbhq .ret) .skip)) qbnv))))) qbiu)))
def qbm2:IC:=zr [zv 39 (zl 5 3),zn (.st 5 zN (.t 4) (.t 39)),zv 5 (.mov (.c (.bool true)))]
def k0dg:IC:=(.seq qb76 (.seq qbzn (.seq (.seq qbq6 (.block 0 (.loop qb2r))) (.seq qbm2 .ret))))
@[go_sem] def s0dg:List (RV×Co):=[(.c true 5 4,zN),(.t 5,.id)]
theorem c0dg:cFun Tryz.prog 161 = some (40,k0dg,s0dg):=by kernel_rfl

def qccp:IC:=zr [zi 2 zaN,zv 3 zf]
def qbza:IC:=zr [zm 10 0,zi 11 (zk 197 [zI 10]),zm 9 11,zv 12 (zx 9 0),zv 13 (zx 9 1),zi 4 zaN,zn (.st 5 zN (.t 4) (.t 12)),zm 5 13]
def qb23:IC:=zr [zm 14 5]
def qb1j:IC:=zr [zm 16 0,zi 17 (zk 198 [zI 16]),zm 15 17,zv 18 (zx 15 0),zv 19 (zx 15 1),zi 6 zaN,zn (.st 5 zN (.t 6) (.t 18)),zm 7 19]
def qb5x:IC:=zr [zm 20 7,zv 21 (.un .not (.t 20)),zm 22 21,zw 22 true 23 (zo 0),zj 22 true 24 (zk 155 [zI 23,((.c (.str [40])),.id)]),zw 22 true 25 (.un .not (.t 24)),zv 26 (.pick (.t 22) (.t 25) (.c (.bool false)))]
def qb1n:IC:=zr [zi 8 zaN]
def qbts:IC:=zr [zm 28 0,zi 29 (zk 197 [zI 28]),zm 27 29,zv 30 (zx 27 0),zv 31 (zx 27 1),zn (.st 5 zN (.t 8) (.t 30)),zm 5 31]
def qbuq:IC:=zr [zv 32 (zd 4 1),zv 33 (zg 1 32),zv 34 (zl 5 4),zv 35 (zl 5 8),zv 36 (.bsl 5 [zA 34,zA 35]),zv 37 (.bld [(.int .i64 0),(.int .i64 0),(.int .i64 0),(.str []),.nils] [(0,1,(zc 24)),(1,1,(.t 33)),(4,1,(.t 36))]),zn (.st 5 zN (.t 4) (.t 37))]
def qb8m:IC:=(.seq (.seq qb23 (.cond (.t 14) .skip (.exit 0))) (.block 1 (.seq (.seq qb1j (.seq qb5x (.cond (.t 26) (.exit 0) .skip))) (.seq qb1n (.seq qbts qbuq)))))
def qbh9:IC:=zr [zv 38 (zl 5 4),zm 39 5,zn (.st 5 zN (.t 2) (.t 38)),zm 3 39]
def k0dp:IC:=(.seq qccp (.seq qbza (.seq (.block 0 (.loop qb8m)) (.seq qbh9 .ret))))
@[go_sem] def s0dp:List (RV×Co):=[(.c true 5 2,zN),(.t 3,.id)]
theorem c0dp:cFun Tryz.prog 162 = some (40,k0dp,s0dp):=by kernel_rfl

def qb3j:IC:=zr [zi 4 zaT,zv 5 zf]
def qccc:IC:=zr [zm 6 0,zi 7 (zk 109 [zI 6]),zm 8 7,zw 8 false 9 (zo 0),zj 8 false 10 (zk 66 [zI 9]),zw 8 false 11 (.fld false 1 0 (.t 10)),zw 8 false 12 (zo 1),zw 8 false 13 (.bin .neq .no (.t 11) (.t 12)),zv 14 (.pick (.t 8) (.c (.bool true)) (.t 13))]
def qbyx:IC:=zr [zv 15 (.bld [(.int .i64 0),(.int .i64 0),(.int .i64 0),(.str [])] []),zm 16 0,zi 17 (zk 152 [zI 16,((zc 5),.id)]),zn (.st 4 .id (.t 4) (.t 15)),zm 5 17]
def qcaq:IC:=zr [zm 18 0,zi 19 (zk 154 [zI 18]),zn (.st 4 .id (.t 4) (.t 19)),zv 5 (.mov (.c (.bool true)))]
def k0ep:IC:=(.seq qb3j (.seq (.seq qccc (.cond (.t 14) (.seq qbyx .ret) .skip)) (.seq qcaq .ret)))
@[go_sem] def s0ep:List (RV×Co):=[(.c true 4 4,.id),(.t 5,.id)]
theorem c0ep:cFun Tryz.prog 163 = some (20,k0ep,s0ep):=by kernel_rfl

def qb4s:IC:=zr [zi 1 zaN,zv 2 zf]
def qbth:IC:=zr [zv 3 (zg 1 0),zi 4 (zk 165 [zI 3]),zv 5 (zx 4 0),zv 6 (zx 4 1),zn (.st 5 zN (.t 1) (.t 5)),zm 2 6]
def k0fh:IC:=(.seq qb4s (.seq qbth .ret))
@[go_sem] def s0fh:List (RV×Co):=[(.c true 5 1,zN),(.t 2,.id)]
theorem c0fh:cFun Tryz.prog 164 = some (7,k0fh,s0fh):=by kernel_rfl

def qb22:IC:=zr [zi 2 zaN,zv 3 zf]
def qb3u:IC:=zr [zm 7 0,zi 8 (zk 66 [zI 7]),zi 4 zaT,zn (.st 4 .id (.t 4) (.t 8))]
def qb2e:IC:=zr [zv 10 (zd 4 0),zv 11 (zg 1 10),zv 12 (zq (.t 11) (zc 1)),zm 9 12]
def qb9m:IC:=zr [zm 13 0,zi 14 (zk 154 [zI 13])]
def qbxi:IC:=zr [zv 15 (zd 4 1),zv 16 (zg 1 15),zv 17 (zd 4 3),zv 18 (zg 1 17),zv 19 (.bld [(.int .i64 0),(.int .i64 0),(.int .i64 0),(.str []),.nils] [(0,1,(zc 1)),(1,1,(.t 16)),(3,1,(.t 18))]),zn (.st 5 zN (.t 2) (.t 19)),zv 3 (.mov (.c (.bool true)))]
def qbx6:IC:=zr [zv 21 (zd 4 0),zv 22 (zg 1 21),zv 23 (zq (.t 22) (zc 2)),zm 20 23]
def qbzl:IC:=zr [zm 24 0,zi 25 (zk 154 [zI 24])]
def qccf:IC:=zr [zv 26 (zd 4 1),zv 27 (zg 1 26),zv 28 (zd 4 3),zv 29 (zg 1 28),zv 30 (.bld [(.int .i64 0),(.int .i64 0),(.int .i64 0),(.str []),.nils] [(0,1,(zc 2)),(1,1,(.t 27)),(3,1,(.t 29))]),zn (.st 5 zN (.t 2) (.t 30)),zv 3 (.mov (.c (.bool true)))]
def qb5p:IC:=zr [zm 32 0,zi 33 (zk 155 [zI 32,((.c (.str [40])),.id)]),zv 34 (.un .not (.t 33)),zm 31 34]
def qbs7:IC:=zr [zv 35 (.bld [(.int .i64 0),(.int .i64 0),(.int .i64 0),(.str []),.nils] []),zm 36 0,zi 37 (zk 152 [zI 36,((zc 5),.id)]),zn (.st 5 zN (.t 2) (.t 35)),zm 3 37]
def qbof:IC:=zr [zm 38 0,zi 39 (zk 95 [zI 38]),zv 40 (.un .not (.t 39))]
def qbhh:IC:=zr [zv 41 (.bld [(.int .i64 0),(.int .i64 0),(.int .i64 0),(.str []),.nils] []),zn (.st 5 zN (.t 2) (.t 41)),zv 3 zf]
def qbl9:IC:=zr [zm 42 0,zi 43 (zk 154 [zI 42])]
def qbg9:IC:=zr [zm 45 0,zi 46 (zk 93 [zI 45]),zm 44 46,zv 47 (zx 44 0),zv 48 (zx 44 1),zi 5 zaN,zn (.st 5 zN (.t 5) (.t 47)),zm 6 48]
def qbn1:IC:=zr [zm 49 6,zm 50 49,zw 50 true 51 (zo 0),zj 50 true 52 (zk 156 [zI 51,((.c (.str [41])),.id)]),zv 53 (.pick (.t 50) (.t 52) (.c (.bool false))),zm 6 53]
def qbob:IC:=zr [zm 54 0,zi 55 (zk 98 [zI 54])]
def qbih:IC:=zr [zm 56 0,zv 57 (zl 5 5),zm 58 6,zi 59 (zk 147 [zI 56,zA 57,zI 58]),zv 60 (zx 59 0),zv 61 (zx 59 1),zn (.st 5 zN (.t 2) (.t 60)),zm 3 61]
def k0ea:IC:=(.seq qb22 (.seq (.seq qb3u (.block 0 (.seq qb2e (.cond (.t 9) (.seq qb9m (.seq qbxi .ret)) (.seq qbx6 (.cond (.t 20) (.seq qbzl (.seq qccf .ret)) (.seq qb5p (.cond (.t 31) (.seq qbs7 .ret) .skip)))))))) (.seq (.seq qbof (.cond (.t 40) (.seq qbhh .ret) .skip)) (.seq qbl9 (.seq qbg9 (.seq qbn1 (.seq qbob (.seq qbih .ret))))))))
@[go_sem] def s0ea:List (RV×Co):=[(.c true 5 2,zN),(.t 3,.id)]
theorem c0ea:cFun Tryz.prog 165 = some (62,k0ea,s0ea):=by kernel_rfl

def qb5k:IC:=zr [zv 1 zf]
def qb6g:IC:=zr [zv 2 (zg 1 0),zi 3 (zk 66 [zI 2]),zv 4 (.fld false 1 0 (.t 3)),zv 5 (zq (.t 4) (zc 1)),zm 1 5]
def k0fi:IC:=(.seq qb5k (.seq qb6g .ret))
@[go_sem] def s0fi:List (RV×Co):=[(.t 1,.id)]
theorem c0fi:cFun Tryz.prog 166 = some (6,k0fi,s0fi):=by kernel_rfl

def qbsj:IC:=zr [zi 1 zaN,zv 2 zf]
def qbud:IC:=zr [zv 3 (zg 1 0),zi 4 (zk 168 [zI 3]),zv 5 (zx 4 0),zv 6 (zx 4 1),zn (.st 5 zN (.t 1) (.t 5)),zm 2 6]
def k0fa:IC:=(.seq qbsj (.seq qbud .ret))
@[go_sem] def s0fa:List (RV×Co):=[(.c true 5 1,zN),(.t 2,.id)]
theorem c0fa:cFun Tryz.prog 167 = some (7,k0fa,s0fa):=by kernel_rfl

def qbv6:IC:=zr [zi 1 (.box (.t 0)),zi 2 zaN,zv 3 zf]
def qbvv:IC:=zr [zv 8 (zg 1 1),zi 9 (zk 163 [zI 8,((zc 2),.id)]),zm 7 9,zv 10 (zx 7 0),zv 11 (zx 7 1),zi 4 zaT,zn (.st 4 .id (.t 4) (.t 10)),zm 5 11]
def qbvr:IC:=zr [zm 12 5,zv 13 (.un .not (.t 12))]
def qbuk:IC:=zr [zv 14 (.bld [(.int .i64 0),(.int .i64 0),(.int .i64 0),(.str []),.nils] []),zn (.st 5 zN (.t 2) (.t 14)),zv 3 zf]
def qbuu:IC:=zr [zv 15 (zd 4 1),zv 16 (zg 1 15),zv 17 (zd 4 3),zv 18 (zg 1 17),zv 19 (.bld [(.int .i64 0),(.int .i64 0),(.int .i64 0),(.str []),.nils] [(0,1,(zc 34)),(1,1,(.t 16)),(3,1,(.t 18))]),zi 6 zaN,zn (.st 5 zN (.t 6) (.t 19))]
def qbwl:IC:=zr [zv 21 (.mfn 199 [] [(.t 1)]),zv 22 (.mfn 200 [] [(.t 1)]),zi 23 (zk 62 [((.c .nils),(.sl 5)),zI 21,zI 22]),zm 20 23,zv 24 (zx 20 0),zv 25 (zx 20 1),zv 26 (zd 6 4),zn (.st 1 (.sl 5) (.t 26) (.t 24)),zm 5 25]
def qb0z:IC:=zr [zv 27 (zl 5 6),zm 28 5,zn (.st 5 zN (.t 2) (.t 27)),zm 3 28]
def k0fj:IC:=(.seq qbv6 (.seq qbvv (.seq (.seq qbvr (.cond (.t 13) (.seq qbuk .ret) .skip)) (.seq qbuu (.seq qbwl (.seq qb0z .ret))))))
@[go_sem] def s0fj:List (RV×Co):=[(.c true 5 2,zN),(.t 3,.id)]
theorem c0fj:cFun Tryz.prog 168 = some (29,k0fj,s0fj):=by kernel_rfl

def qbxr:IC:=zr [zi 3 (.box (.t 0)),zi 5 (.box (.t 2)),zv 6 (.mov (.c .nils)),zv 7 zf]
def qb34:IC:=zr [zv 10 (zg 1 3),zi 11 (zk 156 [zI 10,((.c (.str [119,104,101,114,101])),.id)]),zv 12 (.un .not (.t 11)),zm 13 12,zw 13 false 14 (zg 1 3),zj 13 false 15 (zk 156 [zI 14,((.c (.str [123])),.id)]),zw 13 false 16 (.un .not (.t 15)),zv 17 (.pick (.t 13) (.c (.bool true)) (.t 16))]
def qca8:IC:=zr [zm 18 1,zm 6 18,zv 7 zf]
def qcac:IC:=zr [zv 19 (zg 1 3),zi 20 (zk 61 [zI 19,((.c (.str [59])),.id)]),zi 8 (.alo [.nilf]),zn (.st 1 .id (.t 8) (.t 20))]
def qb3x:IC:=zr [zm 22 1,zv 23 (.mfn 202 [] [(.t 3),(.t 5)]),zv 24 (.mfn 204 [] [(.t 3),(.t 8)]),zi 25 (zk 62 [((.t 22),(.sl 5)),zI 23,zI 24]),zm 21 25,zv 26 (zx 21 0),zv 27 (zx 21 1),zm 1 26,zm 9 27]
def qbgs:IC:=zr [zm 28 1,zm 29 9,zm 30 29,zw 30 true 31 (zg 1 3),zj 30 true 32 (zk 156 [zI 31,((.c (.str [125])),.id)]),zv 33 (.pick (.t 30) (.t 32) (.c (.bool false))),zm 6 28,zm 7 33]
def k0ez:IC:=(.seq qbxr (.seq (.seq qb34 (.cond (.t 17) (.seq qca8 .ret) .skip)) (.seq qcac (.seq qb3x (.seq qbgs .ret)))))
@[go_sem] def s0ez:List (RV×Co):=[(.t 6,(.sl 5)),(.t 7,.id)]
theorem c0ez:cFun Tryz.prog 169 = some (34,k0ez,s0ez):=by kernel_rfl

def qciv:IC:=zr [zi 1 (.box (.t 0)),zv 2 (.mov (.c (.str [])))]
def qcit:IC:=zr [zv 3 (zl 5 1),zv 4 (.bld [(.int .i64 0),(.int .i64 0),(.int .i64 0),(.str []),.nils] [(0,5,(.t 3))]),zv 5 (.mki 40 (.t 4) zN),zi 6 (zk 46 [zI 5]),zm 2 6]
def k0t:IC:=(.seq qciv (.seq qcit .ret))
@[go_sem] def s0t:List (RV×Co):=[(.t 2,.id)]
theorem c0t:cFun Tryz.prog 179 = some (7,k0t,s0t):=by kernel_rfl

def qb2a:IC:=zr [zv 4 zf]
def qbxx:IC:=zr [zm 8 0,zi 9 (zk 109 [zI 8])]
def qcbt:IC:=zr [zv 4 zf]
def qb80:IC:=zr [zv 5 (.mov (zc 0))]
def qb3k:IC:=.drw [zp (zm 10 0),zp (zv 11 (.nck (.t 10))),zp (zv 12 (zd 11 0)),zp (zv 13 (zg 1 12)),zp (zm 14 0),zp (zv 15 (.nck (.t 14))),zp (zv 16 (zd 15 5)),zp (zv 17 (zg 1 16)),zp (zv 18 (.slv 4 (.t 13) (some (.t 17)) none none)),zp (zv 19 (.len false (.t 18))),zp (zv 20 (.mov (zc 0)))]
def qb7e:IC:=zr [zv 21 (.bin .lss .no (.t 20) (.t 19))]
def qbzq:IC:=zr [zv 22 (.iad 4 (.t 18) (.t 20)),zv 23 (zl 4 22),zi 7 zaT,zn (.st 4 .id (.t 7) (.t 23))]
def qbxm:IC:=zr [zv 25 (zl 4 7),zv 26 (.bsl 1 [((.c (.str [40])),.id),((.c (.str [123])),.id)]),zi 27 (zk 193 [zI 25,((.t 26),(.sl 1))]),zm 24 27]
def qbr2:IC:=zr [zm 28 5,zv 29 (.bin .add .no (.t 28) (zc 1)),zm 5 29]
def qbkj:IC:=zr [zv 31 (zl 4 7),zv 32 (.bsl 1 [((.c (.str [41])),.id),((.c (.str [125])),.id)]),zi 33 (zk 193 [zI 31,((.t 32),(.sl 1))]),zm 30 33]
def qbm9:IC:=zr [zm 34 5,zv 35 (.bin .sub .no (.t 34) (zc 1)),zm 5 35]
def qboa:IC:=zr [zm 36 5,zv 37 (.bin .lss .no (.t 36) (zc 0))]
def qboq:IC:=zr [zv 4 zf]
def qbht:IC:=zr [zm 39 5,zv 40 (.bin .gtr .no (.t 39) (zc 0)),zm 38 40]
def qbln:IC:=zr [zv 42 (zl 4 7),zv 43 (.bsl 1 [((.c (.str [59])),.id)]),zi 44 (zk 193 [zI 42,((.t 43),(.sl 1))]),zm 41 44]
def qbom:IC:=zr [zv 4 zf]
def qbnr:IC:=zr [zv 46 (zl 4 7),zm 47 1,zv 48 (.bsl 1 [zI 47]),zi 49 (zk 193 [zI 46,((.t 48),(.sl 1))]),zm 45 49]
def qbmf:IC:=zr [zv 4 (.mov (.c (.bool true)))]
def qblo:IC:=zr [zv 50 (.bin .add .no (.t 20) (zc 1)),zm 20 50]
def qb4y:IC:=(.seq qb7e (.seq (.cond (.t 21) .skip (.exit 0)) (.seq (.block 1 (.seq qbzq (.block 2 (.seq qbxm (.cond (.t 24) qbr2 (.seq qbkj (.cond (.t 30) (.seq qbm9 (.seq qboa (.cond (.t 37) (.seq qboq .ret) .skip))) (.seq qbht (.cond (.t 38) .skip (.seq qbln (.cond (.t 41) (.seq qbom .ret) (.seq qbnr (.cond (.t 45) (.seq qbmf .ret) .skip))))))))))))) qblo)))
def qbh6:IC:=zr [zv 4 zf]
def k0eq:IC:=(.seq qb2a (.seq (.seq qbxx (.cond (.t 9) (.seq qcbt .ret) .skip)) (.seq qb80 (.seq (.seq qb3k (.block 0 (.loop qb4y))) (.seq qbh6 .ret)))))
@[go_sem] def s0eq:List (RV×Co):=[(.t 4,.id)]
theorem c0eq:cFun Tryz.prog 180 = some (51,k0eq,s0eq):=by kernel_rfl

def qbru:IC:=zr [zv 2 zf]
def qb66:IC:=zr [zm 6 0,zi 7 (zk 55 [zI 6]),zm 5 7,zv 8 (zx 5 0),zv 9 (zx 5 1),zm 3 8,zm 4 9]
def qb0p:IC:=zr [zm 10 4,zv 11 (.bin .neq .no (.t 10) (zc 0)),zm 12 11,zw 12 true 13 (zo 4),zw 12 true 14 (.bin .neq .no (.t 13) (zc 5)),zw 12 true 15 (zo 14),zw 15 false 16 (zo 0),zj 15 false 17 (zk 66 [zI 16]),zw 15 false 18 (.fld false 1 0 (.t 17)),zw 15 false 19 (zq (.t 18) (zc 0)),zw 12 true 20 (.pick (.t 15) (.c (.bool true)) (.t 19)),zv 21 (.pick (.t 12) (.t 20) (.c (.bool false))),zm 2 21]
def k0dw:IC:=(.seq qbru (.seq qb66 (.seq qb0p .ret)))
@[go_sem] def s0dw:List (RV×Co):=[(.t 2,.id)]
theorem c0dw:cFun Tryz.prog 181 = some (22,k0dw,s0dw):=by kernel_rfl

def qb7a:IC:=zr [zi 2 zaN,zv 3 zf]
def qbsd:IC:=zr [zm 8 0,zi 9 (zk 163 [zI 8,((zc 2),.id)]),zm 7 9,zv 10 (zx 7 0),zv 11 (zx 7 1),zi 4 zaT,zn (.st 4 .id (.t 4) (.t 10)),zm 5 11]
def qbrd:IC:=zr [zm 12 5,zv 13 (.un .not (.t 12))]
def qb7w:IC:=zr [zv 14 (.bld [(.int .i64 0),(.int .i64 0),(.int .i64 0),(.str []),.nils] []),zn (.st 5 zN (.t 2) (.t 14)),zv 3 zf]
def qb7g:IC:=zr [zm 16 0,zi 17 (zk 165 [zI 16]),zm 15 17,zv 18 (zx 15 0),zv 19 (zx 15 1),zi 6 zaN,zn (.st 5 zN (.t 6) (.t 18)),zm 5 19]
def qb81:IC:=zr [zm 20 0,zv 21 (zd 4 1),zv 22 (zg 1 21),zv 23 (zd 4 3),zv 24 (zg 1 23),zv 25 (zl 5 6),zv 26 (.bsl 5 [zA 25]),zv 27 (.bld [(.int .i64 0),(.int .i64 0),(.int .i64 0),(.str []),.nils] [(0,1,(zc 3)),(1,1,(.t 22)),(3,1,(.t 24)),(4,1,(.t 26))]),zm 28 5,zi 29 (zk 147 [zI 20,zA 27,zI 28]),zv 30 (zx 29 0),zv 31 (zx 29 1),zn (.st 5 zN (.t 2) (.t 30)),zm 3 31]
def k0dx:IC:=(.seq qb7a (.seq qbsd (.seq (.seq qbrd (.cond (.t 13) (.seq qb7w .ret) .skip)) (.seq qb7g (.seq qb81 .ret)))))
@[go_sem] def s0dx:List (RV×Co):=[(.c true 5 2,zN),(.t 3,.id)]
theorem c0dx:cFun Tryz.prog 182 = some (32,k0dx,s0dx):=by kernel_rfl

def qb5n:IC:=zr [zv 2 zf]
def qbs2:IC:=zr [zm 4 0,zi 5 (zk 66 [zI 4]),zv 6 (.fld false 1 0 (.t 5)),zm 3 6]
def qbs3:IC:=zr [zm 7 3,zv 8 (zq (.t 7) (zc 1)),zm 9 8,zw 9 false 10 (zo 3),zw 9 false 11 (zq (.t 10) (zc 2)),zv 12 (.pick (.t 9) (.c (.bool true)) (.t 11)),zm 13 12,zw 13 false 14 (zo 0),zj 13 false 15 (zk 155 [zI 14,((.c (.str [40])),.id)]),zv 16 (.pick (.t 13) (.c (.bool true)) (.t 15)),zm 2 16]
def k0dz:IC:=(.seq qb5n (.seq qbs2 (.seq qbs3 .ret)))
@[go_sem] def s0dz:List (RV×Co):=[(.t 2,.id)]
theorem c0dz:cFun Tryz.prog 183 = some (17,k0dz,s0dz):=by kernel_rfl

def qb6j:IC:=zr [zv 4 (.mov (zc 0))]
def qbrm:IC:=zr [zm 6 0,zv 7 (.len true (.t 6)),zv 8 (.mov (zc 0))]
def qb41:IC:=zr [zv 9 (.bin .lss .no (.t 8) (.t 7))]
def qb7m:IC:=zr [zm 10 8,zm 5 10]
def qbz3:IC:=zr [zm 11 1,zm 12 0,zm 13 5,zv 14 (.idx (.t 12) (.t 13)),zi 15 (.call (.t 11) [zI 14]),zv 16 (.un .not (.t 15))]
def qbzo:IC:=zr [zm 17 5,zm 4 17]
def qbzm:IC:=zr [zv 18 (.bin .add .no (.t 8) (zc 1)),zm 8 18]
def qb5f:IC:=(.seq qb41 (.seq (.cond (.t 9) .skip (.exit 0)) (.seq (.block 1 (.seq qb7m (.seq qbz3 (.cond (.t 16) (.seq qbzo .ret) .skip)))) qbzm)))
def qbqz:IC:=zr [zm 19 0,zv 20 (.len true (.t 19)),zm 4 20]
def k0cz:IC:=(.seq qb6j (.seq (.seq qbrm (.block 0 (.loop qb5f))) (.seq qbqz .ret)))
@[go_sem] def s0cz:List (RV×Co):=[(.t 4,.id)]
theorem c0cz:cFun Tryz.prog 184 = some (21,k0cz,s0cz):=by kernel_rfl

def qb8r:IC:=zr [zv 2 zf]
def qbxb:IC:=zr [zm 3 0,zv 4 (zq (.t 3) (.c (.int .u8 9))),zm 5 4,zw 5 false 6 (zo 0),zw 5 false 7 (zq (.t 6) (.c (.int .u8 10))),zv 8 (.pick (.t 5) (.c (.bool true)) (.t 7)),zm 9 8,zw 9 false 10 (zo 0),zw 9 false 11 (zq (.t 10) (.c (.int .u8 13))),zv 12 (.pick (.t 9) (.c (.bool true)) (.t 11)),zm 13 12,zw 13 false 14 (zo 0),zw 13 false 15 (zq (.t 14) (.c (.int .u8 32))),zv 16 (.pick (.t 13) (.c (.bool true)) (.t 15)),zm 2 16]
def k0cx:IC:=(.seq qb8r (.seq qbxb .ret))
@[go_sem] def s0cx:List (RV×Co):=[(.t 2,.id)]
theorem c0cx:cFun Tryz.prog 185 = some (17,k0cx,s0cx):=by kernel_rfl

def qbs9:IC:=zr [zv 4 zf]
def qb1q:IC:=zr [zm 5 0,zm 6 1,zi 7 (zk 209 [zI 5,zI 6]),zm 4 7]
def k0db:IC:=(.seq qbs9 (.seq qb1q .ret))
@[go_sem] def s0db:List (RV×Co):=[(.t 4,.id)]
theorem c0db:cFun Tryz.prog 186 = some (8,k0db,s0db):=by kernel_rfl

def qb21:IC:=zr [zv 2 zf]
def qb16:IC:=zr [zm 3 0,zv 4 (.bin .neq .no (.t 3) (.c (.int .u8 10))),zm 2 4]
def k0cy:IC:=(.seq qb21 (.seq qb16 .ret))
@[go_sem] def s0cy:List (RV×Co):=[(.t 2,.id)]
theorem c0cy:cFun Tryz.prog 187 = some (5,k0cy,s0cy):=by kernel_rfl

def qby5:IC:=zr [zv 2 zf]
def qb59:IC:=zr [zm 3 0,zv 4 (.bin .geq .no (.t 3) (.c (.int .u8 48))),zm 5 4,zw 5 true 6 (zo 0),zw 5 true 7 (.bin .leq .no (.t 6) (.c (.int .u8 57))),zv 8 (.pick (.t 5) (.t 7) (.c (.bool false))),zm 2 8]
def k0cv:IC:=(.seq qby5 (.seq qb59 .ret))
@[go_sem] def s0cv:List (RV×Co):=[(.t 2,.id)]
theorem c0cv:cFun Tryz.prog 188 = some (9,k0cv,s0cv):=by kernel_rfl

def qbql:IC:=zr [zv 2 (.mov (zc 0)),zv 3 (.mov (zc 0))]
def qb2o:IC:=zr [zm 8 0,zv 9 (.len true (.t 8)),zv 10 (.mov (zc 0))]
def qcb4:IC:=zr [zv 11 (.bin .lss .no (.t 10) (.t 9))]
def qbyo:IC:=zr [zm 12 10,zm 4 12]
def qbz1:IC:=zr [zm 13 0,zm 14 4,zv 15 (.idx (.t 13) (.t 14)),zv 16 (.bin .lss .no (.t 15) (.c (.int .u8 48))),zm 17 16,zw 17 false 18 (zo 0),zw 17 false 19 (zo 4),zw 17 false 20 (.idx (.t 18) (.t 19)),zw 17 false 21 (.bin .gtr .no (.t 20) (.c (.int .u8 57))),zv 22 (.pick (.t 17) (.c (.bool true)) (.t 21))]
def qca3:IC:=zr [zv 2 (.mov (zc 0)),zv 3 (.mov (zc 5))]
def qbtb:IC:=zr [zv 23 (.bin .add .no (.t 10) (zc 1)),zm 10 23]
def qbx4:IC:=(.seq qcb4 (.seq (.cond (.t 11) .skip (.exit 0)) (.seq (.block 1 (.seq qbyo (.seq qbz1 (.cond (.t 22) (.seq qca3 .ret) .skip)))) qbtb)))
def qb91:IC:=zr [zm 24 0,zv 25 (zq (.t 24) (.c (.str [])))]
def qbj2:IC:=zr [zv 2 (.mov (zc 0)),zv 3 (.mov (zc 5))]
def qbkq:IC:=zr [zv 5 (.mov (zc 0)),zv 6 (.mov (zc 0))]
def qblc:IC:=zr [zm 26 0,zm 27 6,zv 28 (.idx (.t 26) (.t 27)),zv 29 (.bin .sub .no (.t 28) (.c (.int .u8 48))),zv 30 (.cvi .i64 (.t 29)),zm 7 30]
def qbnc:IC:=zr [zm 31 5,zm 32 7,zv 33 (.bin .sub .no (zc 9223372036854775807) (.t 32)),zv 34 (.bin .quo .no (.t 33) (zc 10)),zv 35 (.bin .gtr .no (.t 31) (.t 34))]
def qboi:IC:=zr [zv 2 (.mov (zc 0)),zv 3 (.mov (zc 4))]
def qblx:IC:=zr [zm 36 5,zv 37 (.bin .mul .no (zc 10) (.t 36)),zm 38 7,zv 39 (.bin .add .no (.t 37) (.t 38)),zm 5 39]
def qbj6:IC:=zr [zm 40 6,zv 41 (.bin .add .no (.t 40) (zc 1)),zm 6 41]
def qbl8:IC:=zr [zm 42 6,zm 43 0,zv 44 (.len true (.t 43)),zv 45 (.bin .lss .no (.t 42) (.t 44))]
def qbn5:IC:=zr [zm 46 5,zm 2 46,zv 3 (.mov (zc 0))]
def k0co:IC:=(.seq qbql (.scope (.seq (.seq qb2o (.block 0 (.loop qbx4))) (.seq (.seq qb91 (.cond (.t 25) (.seq qbj2 .ret) .skip)) (.seq qbkq (.seq (.label 0) (.seq qblc (.seq (.seq qbnc (.cond (.t 35) (.seq qboi .ret) .skip)) (.seq qblx (.seq (.seq qbj6 (.seq qbl8 (.cond (.t 45) (.goto 0) .skip))) (.seq qbn5 .ret)))))))))))
@[go_sem] def s0co:List (RV×Co):=[(.t 2,.id),(.t 3,.id)]
theorem c0co:cFun Tryz.prog 189 = some (47,k0co,s0co):=by kernel_rfl

def qbyw:IC:=zr [zv 2 zf]
def qbuy:IC:=zr [zm 3 0,zv 4 (.bin .geq .no (.t 3) (.c (.int .u8 97))),zm 5 4,zw 5 true 6 (zo 0),zw 5 true 7 (.bin .leq .no (.t 6) (.c (.int .u8 122))),zv 8 (.pick (.t 5) (.t 7) (.c (.bool false))),zm 9 8,zw 9 false 10 (zo 0),zw 9 false 11 (.bin .geq .no (.t 10) (.c (.int .u8 65))),zw 9 false 12 (zo 11),zw 12 true 13 (zo 0),zw 12 true 14 (.bin .leq .no (.t 13) (.c (.int .u8 90))),zw 9 false 15 (.pick (.t 12) (.t 14) (.c (.bool false))),zv 16 (.pick (.t 9) (.c (.bool true)) (.t 15)),zm 17 16,zw 17 false 18 (zo 0),zw 17 false 19 (zq (.t 18) (.c (.int .u8 95))),zv 20 (.pick (.t 17) (.c (.bool true)) (.t 19)),zm 21 20,zw 21 false 22 (zo 0),zw 21 false 23 (zq (.t 22) (.c (.int .u8 39))),zv 24 (.pick (.t 21) (.c (.bool true)) (.t 23)),zm 25 24,zw 25 false 26 (zo 0),zj 25 false 27 (zk 188 [zI 26]),zv 28 (.pick (.t 25) (.c (.bool true)) (.t 27)),zm 2 28]
def k0cw:IC:=(.seq qbyw (.seq qbuy .ret))
@[go_sem] def s0cw:List (RV×Co):=[(.t 2,.id)]
theorem c0cw:cFun Tryz.prog 190 = some (29,k0cw,s0cw):=by kernel_rfl

def qcco:IC:=zr [zi 2 zaT]
def qbrg:IC:=zr [zm 4 0,zv 5 (.bld [(.int .i64 0),(.int .i64 0),(.int .i64 0),(.str [])] [(0,1,(zc 1)),(3,1,(.t 4))]),zi 3 zaT,zn (.st 4 .id (.t 3) (.t 5))]
def qb1i:IC:=zr [zm 7 0,zv 8 (zq (.t 7) (.c (.str [95]))),zm 6 8]
def qbtx:IC:=zr [zv 9 (zd 3 0),zn (.st 1 .id (.t 9) (zc 5))]
def qbra:IC:=zr [zm 11 0,zi 12 (zk 144 [zI 11]),zm 10 12]
def qbx3:IC:=zr [zv 13 (zd 3 0),zn (.st 1 .id (.t 13) (zc 4))]
def qb6a:IC:=zr [zm 15 0,zi 16 (zk 91 [zI 15]),zm 14 16]
def qb60:IC:=zr [zv 17 (zd 3 0),zn (.st 1 .id (.t 17) (zc 2))]
def qb4h:IC:=zr [zv 18 (zl 4 3),zn (.st 4 .id (.t 2) (.t 18))]
def k0cs:IC:=(.seq qcco (.seq qbrg (.seq (.block 0 (.seq qb1i (.cond (.t 6) qbtx (.seq qbra (.cond (.t 10) qbx3 (.seq qb6a (.cond (.t 14) qb60 .skip))))))) (.seq qb4h .ret))))
@[go_sem] def s0cs:List (RV×Co):=[(.c true 4 2,.id)]
theorem c0cs:cFun Tryz.prog 191 = some (19,k0cs,s0cs):=by kernel_rfl

def qbw9:IC:=zr [zv 2 (.mov (zc 0))]
def qcb6:IC:=zr [zv 5 (.bld [(.str []),(.str []),(.str []),(.str []),(.str []),(.str []),(.str []),(.str []),(.str []),(.str []),(.str []),(.str [])] [(0,1,(.c (.str [45,62]))),(1,1,(.c (.str [61,62]))),(2,1,(.c (.str [58,58]))),(3,1,(.c (.str [40]))),(4,1,(.c (.str [41]))),(5,1,(.c (.str [123]))),(6,1,(.c (.str [125]))),(7,1,(.c (.str [59]))),(8,1,(.c (.str [44]))),(9,1,(.c (.str [61]))),(10,1,(.c (.str [124]))),(11,1,(.c (.str [92])))]),zv 6 (.mov (zc 0))]
def qbu6:IC:=zr [zv 7 (.bin .lss .no (.t 6) (zc 12))]
def qb7d:IC:=zr [zv 8 (.ida false 1 12 (.t 5) (.t 6)),zm 4 8]
def qb18:IC:=zr [zm 9 0,zm 10 4,zi 11 (zk 186 [zI 9,zI 10])]
def qb7q:IC:=zr [zm 12 4,zv 13 (.len true (.t 12)),zm 2 13]
def qcb7:IC:=zr [zv 14 (.bin .add .no (.t 6) (zc 1)),zm 6 14]
def qcbx:IC:=(.seq qbu6 (.seq (.cond (.t 7) .skip (.exit 0)) (.seq (.block 1 (.seq qb7d (.seq qb18 (.cond (.t 11) (.seq qb7q .ret) .skip)))) qcb7)))
def qbyy:IC:=zr [zv 2 (.mov (zc 0))]
def k0ct:IC:=(.seq qbw9 (.seq (.seq qcb6 (.block 0 (.loop qcbx))) (.seq qbyy .ret)))
@[go_sem] def s0ct:List (RV×Co):=[(.t 2,.id)]
theorem c0ct:cFun Tryz.prog 192 = some (15,k0ct,s0ct):=by kernel_rfl

def qb88:IC:=zr [zi 2 (.box (.t 0)),zv 4 zf]
def qbty:IC:=zr [zv 7 (zd 2 0),zv 8 (zg 1 7),zv 9 (.bin .neq .no (.t 8) (zc 4)),zm 10 9,zw 10 true 11 (zd 2 0),zw 10 true 12 (zg 1 11),zw 10 true 13 (.bin .neq .no (.t 12) (zc 5)),zv 14 (.pick (.t 10) (.t 13) (.c (.bool false)))]
def qb9a:IC:=zr [zv 4 zf]
def qcah:IC:=zr [zm 15 1,zv 16 (.len false (.t 15)),zv 17 (.mov (zc 0))]
def qbwf:IC:=zr [zv 18 (.bin .lss .no (.t 17) (.t 16))]
def qcat:IC:=zr [zv 19 (.iad 1 (.t 15) (.t 17)),zv 20 (zg 1 19),zm 6 20]
def qb6s:IC:=zr [zv 21 (zd 2 3),zv 22 (zg 1 21),zm 23 6,zv 24 (zq (.t 22) (.t 23))]
def qbtc:IC:=zr [zv 4 (.mov (.c (.bool true)))]
def qb0y:IC:=zr [zv 25 (.bin .add .no (.t 17) (zc 1)),zm 17 25]
def k0eg_l4:IC:=(.seq qbwf (.seq (.cond (.t 18) .skip (.exit 0)) (.seq (.block 1 (.seq qcat (.seq qb6s (.cond (.t 24) (.seq qbtc .ret) .skip)))) qb0y)))
def k0eg_r11:IC:=zr [zv 4 zf]
def k0eg:IC:=(.seq qb88 (.seq (.seq qbty (.cond (.t 14) (.seq qb9a .ret) .skip)) (.seq (.seq qcah (.block 0 (.loop k0eg_l4))) (.seq k0eg_r11 .ret))))
@[go_sem] def s0eg:List (RV×Co):=[(.t 4,.id)]
theorem c0eg:cFun Tryz.prog 193 = some (26,k0eg,s0eg):=by kernel_rfl

def qb2f:IC:=zr [zv 4 (.mov (.c .nils)),zv 5 zf]
def qb2y:IC:=zr [zm 9 0,zi 10 (zk 156 [zI 9,((.c (.str [123])),.id)]),zv 11 (.un .not (.t 10))]
def qcar:IC:=zr [zv 4 (.mov (.c .nils)),zv 5 zf]
def qb50:IC:=zr [zv 6 (.mov (.c .nils))]
def qb6v:IC:=zr [zm 13 1,zi 14 (.call (.t 13) []),zm 12 14,zv 15 (zx 12 0),zv 16 (zx 12 1),zi 7 zaN,zn (.st 5 zN (.t 7) (.t 15)),zm 8 16]
def qb2p:IC:=zr [zm 17 8,zv 18 (.un .not (.t 17))]
def qby6:IC:=zr [zv 4 (.mov (.c .nils)),zv 5 zf]
def qbx1:IC:=zr [zm 19 6,zv 20 (zl 5 7),zv 21 (.bsl 5 [zA 20]),zi 22 (.app 5 zZ 64 (.sl 5) (.t 19) (.t 21)),zm 6 22]
def qbc9:IC:=zr [zm 23 0,zi 24 (zk 105 [zI 23,((.c (.str [59])),.id)]),zv 25 (.un .not (.t 24)),zm 26 25,zw 26 false 27 (zo 0),zj 26 false 28 (zk 155 [zI 27,((.c (.str [125])),.id)]),zv 29 (.pick (.t 26) (.c (.bool true)) (.t 28))]
def qbkf:IC:=zr [zm 30 6,zm 31 0,zi 32 (zk 156 [zI 31,((.c (.str [125])),.id)]),zm 4 30,zm 5 32]
def qbdb:IC:=(.block 1 (.seq qb6v (.seq (.seq qb2p (.cond (.t 18) (.seq qby6 .ret) .skip)) (.seq qbx1 (.seq qbc9 (.cond (.t 29) (.seq qbkf .ret) .skip))))))
def k0dk:IC:=(.seq qb2f (.seq (.seq qb2y (.cond (.t 11) (.seq qcar .ret) .skip)) (.seq qb50 (.block 0 (.loop qbdb)))))
@[go_sem] def s0dk:List (RV×Co):=[(.t 4,(.sl 5)),(.t 5,.id)]
theorem c0dk:cFun Tryz.prog 194 = some (33,k0dk,s0dk):=by kernel_rfl

def qb82:IC:=zr [zi 1 zaN,zv 2 zf]
def qcb8:IC:=zr [zv 3 (zg 1 0),zi 4 (zk 108 [zI 3]),zv 5 (zx 4 0),zv 6 (zx 4 1),zn (.st 5 zN (.t 1) (.t 5)),zm 2 6]
def k0di:IC:=(.seq qb82 (.seq qcb8 .ret))
@[go_sem] def s0di:List (RV×Co):=[(.c true 5 1,zN),(.t 2,.id)]
theorem c0di:cFun Tryz.prog 195 = some (7,k0di,s0di):=by kernel_rfl

def qbvi:IC:=zr [zi 1 zaN,zv 2 zf]
def qb07:IC:=zr [zv 7 (zg 1 0),zi 8 (zk 54 [zI 7]),zm 6 8,zv 9 (zx 6 0),zv 10 (zx 6 1),zi 3 zaN,zn (.st 5 zN (.t 3) (.t 9)),zm 4 10]
def qb62:IC:=zr [zm 11 4,zv 12 (.un .not (.t 11)),zm 13 12,zw 13 false 14 (zg 1 0),zj 13 false 15 (zk 156 [zI 14,((.c (.str [45,62])),.id)]),zw 13 false 16 (.un .not (.t 15)),zv 17 (.pick (.t 13) (.c (.bool true)) (.t 16))]
def qbs0:IC:=zr [zv 18 (zl 5 3),zn (.st 5 zN (.t 1) (.t 18)),zv 2 zf]
def qb9h:IC:=zr [zv 20 (zg 1 0),zi 21 (zk 58 [zI 20]),zm 19 21,zv 22 (zx 19 0),zv 23 (zx 19 1),zi 5 zaN,zn (.st 5 zN (.t 5) (.t 22)),zm 4 23]
def qb0l:IC:=zr [zv 24 (zd 3 1),zv 25 (zg 1 24),zv 26 (zl 5 3),zv 27 (zl 5 5),zv 28 (.bsl 5 [zA 26,zA 27]),zv 29 (.bld [(.int .i64 0),(.int .i64 0),(.int .i64 0),(.str []),.nils] [(0,1,(zc 15)),(1,1,(.t 25)),(4,1,(.t 28))]),zm 30 4,zn (.st 5 zN (.t 1) (.t 29)),zm 2 30]
def k0dj:IC:=(.seq qbvi (.seq qb07 (.seq (.seq qb62 (.cond (.t 17) (.seq qbs0 .ret) .skip)) (.seq qb9h (.seq qb0l .ret)))))
@[go_sem] def s0dj:List (RV×Co):=[(.c true 5 1,zN),(.t 2,.id)]
theorem c0dj:cFun Tryz.prog 196 = some (31,k0dj,s0dj):=by kernel_rfl

def qb02:IC:=zr [zi 2 zaN,zv 3 zf]
def qb29:IC:=zr [zm 9 0,zi 10 (zk 198 [zI 9]),zm 8 10,zv 11 (zx 8 0),zv 12 (zx 8 1),zi 4 zaN,zn (.st 5 zN (.t 4) (.t 11)),zm 5 12]
def qbzs:IC:=zr [zm 13 5]
def qbt1:IC:=zr [zm 14 0,zi 15 (zk 154 [zI 14])]
def qb11:IC:=zr [zv 16 (zl 5 4),zn (.st 5 zN (.t 2) (.t 16)),zv 3 (.mov (.c (.bool true)))]
def qb2b:IC:=zr [zm 17 0,zi 18 (zk 155 [zI 17,((.c (.str [40])),.id)]),zv 19 (.un .not (.t 18))]
def qbzh:IC:=zr [zv 20 (.bld [(.int .i64 0),(.int .i64 0),(.int .i64 0),(.str []),.nils] []),zm 21 0,zi 22 (zk 152 [zI 21,((zc 5),.id)]),zn (.st 5 zN (.t 2) (.t 20)),zm 3 22]
def qb3m:IC:=zr [zm 23 0,zi 24 (zk 95 [zI 23]),zv 25 (.un .not (.t 24))]
def qb51:IC:=zr [zv 26 (.bld [(.int .i64 0),(.int .i64 0),(.int .i64 0),(.str []),.nils] []),zn (.st 5 zN (.t 2) (.t 26)),zv 3 zf]
def qcbi:IC:=zr [zm 27 0,zi 28 (zk 154 [zI 27])]
def qbmg:IC:=zr [zm 30 0,zi 31 (zk 58 [zI 30]),zm 29 31,zv 32 (zx 29 0),zv 33 (zx 29 1),zi 6 zaN,zn (.st 5 zN (.t 6) (.t 32)),zm 7 33]
def qbjt:IC:=zr [zm 34 7,zv 35 (.un .not (.t 34)),zm 36 35,zw 36 false 37 (zo 0),zj 36 false 38 (zk 156 [zI 37,((.c (.str [41])),.id)]),zw 36 false 39 (.un .not (.t 38)),zv 40 (.pick (.t 36) (.c (.bool true)) (.t 39))]
def qboh:IC:=zr [zv 41 (.bld [(.int .i64 0),(.int .i64 0),(.int .i64 0),(.str []),.nils] []),zn (.st 5 zN (.t 2) (.t 41)),zv 3 zf]
def qbog:IC:=zr [zm 42 0,zi 43 (zk 98 [zI 42])]
def qbng:IC:=zr [zv 44 (zl 5 6),zn (.st 5 zN (.t 2) (.t 44)),zv 3 (.mov (.c (.bool true)))]
def k0do:IC:=(.seq qb02 (.seq (.seq qb29 (.seq qbzs (.cond (.t 13) (.seq qbt1 (.seq qb11 .ret)) .skip))) (.seq (.seq qb2b (.cond (.t 19) (.seq qbzh .ret) .skip)) (.seq (.seq qb3m (.cond (.t 25) (.seq qb51 .ret) .skip)) (.seq qcbi (.seq qbmg (.seq (.seq qbjt (.cond (.t 40) (.seq qboh .ret) .skip)) (.seq qbog (.seq qbng .ret)))))))))
@[go_sem] def s0do:List (RV×Co):=[(.c true 5 2,zN),(.t 3,.id)]
theorem c0do:cFun Tryz.prog 197 = some (45,k0do,s0do):=by kernel_rfl

def qbry:IC:=zr [zi 2 zaN,zv 3 zf]
def qbsx:IC:=zr [zm 5 0,zi 6 (zk 66 [zI 5]),zi 4 zaT,zn (.st 4 .id (.t 4) (.t 6))]
def qbuo:IC:=zr [zv 7 (zd 4 0),zv 8 (zg 1 7)]
def qbxh:IC:=zr [zv 10 (zq (.t 8) (zc 1)),zm 9 10]
def qbw4:IC:=zr [zv 11 (zd 4 1),zv 12 (zg 1 11),zv 13 (zd 4 3),zv 14 (zg 1 13),zv 15 (.bld [(.int .i64 0),(.int .i64 0),(.int .i64 0),(.str []),.nils] [(0,1,(zc 21)),(1,1,(.t 12)),(3,1,(.t 14))]),zn (.st 5 zN (.t 2) (.t 15)),zv 3 (.mov (.c (.bool true)))]
def qbzz:IC:=zr [zv 17 (zq (.t 8) (zc 2)),zm 16 17]
def qb46:IC:=zr [zv 18 (zd 4 1),zv 19 (zg 1 18),zv 20 (zd 4 3),zv 21 (zg 1 20),zv 22 (.bld [(.int .i64 0),(.int .i64 0),(.int .i64 0),(.str []),.nils] [(0,1,(zc 22)),(1,1,(.t 19)),(3,1,(.t 21))]),zn (.st 5 zN (.t 2) (.t 22)),zv 3 (.mov (.c (.bool true)))]
def qb1a:IC:=zr [zv 24 (zq (.t 8) (zc 3)),zm 23 24]
def qbuh:IC:=zr [zv 25 (zd 4 1),zv 26 (zg 1 25),zv 27 (zd 4 2),zv 28 (zg 1 27),zv 29 (.bld [(.int .i64 0),(.int .i64 0),(.int .i64 0),(.str []),.nils] [(0,1,(zc 23)),(1,1,(.t 26)),(2,1,(.t 28))]),zn (.st 5 zN (.t 2) (.t 29)),zv 3 (.mov (.c (.bool true)))]
def qb7y:IC:=zr [zv 30 (.bld [(.int .i64 0),(.int .i64 0),(.int .i64 0),(.str []),.nils] []),zn (.st 5 zN (.t 2) (.t 30)),zv 3 zf]
def k0dn:IC:=(.seq qbry (.seq qbsx (.seq (.seq qbuo (.block 0 (.seq qbxh (.cond (.t 9) (.seq qbw4 .ret) (.seq qbzz (.cond (.t 16) (.seq qb46 .ret) (.seq qb1a (.cond (.t 23) (.seq qbuh .ret) .skip)))))))) (.seq qb7y .ret))))
@[go_sem] def s0dn:List (RV×Co):=[(.c true 5 2,zN),(.t 3,.id)]
theorem c0dn:cFun Tryz.prog 198 = some (31,k0dn,s0dn):=by kernel_rfl

def qb0g:IC:=zr [zi 1 zaN,zv 2 zf]
def qb33:IC:=zr [zv 3 (zg 1 0),zi 4 (zk 165 [zI 3]),zv 5 (zx 4 0),zv 6 (zx 4 1),zn (.st 5 zN (.t 1) (.t 5)),zm 2 6]
def k0ff:IC:=(.seq qb0g (.seq qb33 .ret))
@[go_sem] def s0ff:List (RV×Co):=[(.c true 5 1,zN),(.t 2,.id)]
theorem c0ff:cFun Tryz.prog 199 = some (7,k0ff,s0ff):=by kernel_rfl

def qbsc:IC:=zr [zv 1 zf]
def qcb1:IC:=zr [zv 2 (zg 1 0),zi 3 (zk 201 [zI 2]),zm 1 3]
def k0fg:IC:=(.seq qbsc (.seq qcb1 .ret))
@[go_sem] def s0fg:List (RV×Co):=[(.t 1,.id)]
theorem c0fg:cFun Tryz.prog 200 = some (4,k0fg,s0fg):=by kernel_rfl

def qb2u:IC:=zr [zv 2 zf]
def qb5c:IC:=zr [zm 4 0,zi 5 (zk 66 [zI 4]),zv 6 (.fld false 1 0 (.t 5)),zm 3 6]
def qb0x:IC:=zr [zm 7 3,zv 8 (zq (.t 7) (zc 1)),zm 9 8,zw 9 false 10 (zo 3),zw 9 false 11 (zq (.t 10) (zc 2)),zv 12 (.pick (.t 9) (.c (.bool true)) (.t 11)),zm 13 12,zw 13 false 14 (zo 0),zj 13 false 15 (zk 155 [zI 14,((.c (.str [40])),.id)]),zv 16 (.pick (.t 13) (.c (.bool true)) (.t 15)),zm 2 16]
def k0fe:IC:=(.seq qb2u (.seq qb5c (.seq qb0x .ret)))
@[go_sem] def s0fe:List (RV×Co):=[(.t 2,.id)]
theorem c0fe:cFun Tryz.prog 201 = some (17,k0fe,s0fe):=by kernel_rfl

def qb3q:IC:=zr [zi 2 zaN,zv 3 zf]
def qca6:IC:=zr [zv 4 (zg 1 0),zv 5 (zg 1 1),zi 6 (zk 203 [zI 4,zI 5]),zv 7 (zx 6 0),zv 8 (zx 6 1),zn (.st 5 zN (.t 2) (.t 7)),zm 3 8]
def k0ex:IC:=(.seq qb3q (.seq qca6 .ret))
@[go_sem] def s0ex:List (RV×Co):=[(.c true 5 2,zN),(.t 3,.id)]
theorem c0ex:cFun Tryz.prog 202 = some (9,k0ex,s0ex):=by kernel_rfl

def qb4g:IC:=zr [zi 4 zaN,zv 5 zf]
def qb4i:IC:=zr [zm 9 0,zi 10 (zk 108 [zI 9]),zm 8 10,zv 11 (zx 8 0),zv 12 (zx 8 1),zi 6 zaN,zn (.st 5 zN (.t 6) (.t 11)),zm 7 12]
def qb94:IC:=zr [zm 13 7,zm 14 13,zw 14 true 15 (zd 6 0),zw 14 true 16 (zg 1 15),zw 14 true 17 (zo 1),zw 14 true 18 (.bin .neq .no (.t 16) (.t 17)),zv 19 (.pick (.t 14) (.t 18) (.c (.bool false)))]
def qccn:IC:=.drw [zp (zv 20 (zl 5 6)),zp (zm 21 0),(zi 22 (zk 152 [zI 21,((zc 5),.id)]),[0]),(zn (.st 5 zN (.t 4) (.t 20)),[]),zp (zm 5 22)]
def qb6d:IC:=zr [zv 23 (zl 5 6),zm 24 7,zn (.st 5 zN (.t 4) (.t 23)),zm 5 24]
def k0ew:IC:=(.seq qb4g (.seq qb4i (.seq (.seq qb94 (.cond (.t 19) (.seq qccn .ret) .skip)) (.seq qb6d .ret))))
@[go_sem] def s0ew:List (RV×Co):=[(.c true 5 4,zN),(.t 5,.id)]
theorem c0ew:cFun Tryz.prog 203 = some (25,k0ew,s0ew):=by kernel_rfl

def qb95:IC:=zr [zv 2 zf]
def qcbf:IC:=zr [zv 3 (zg 1 0),zi 4 (zk 155 [zI 3,((.c (.str [125])),.id)]),zv 5 (.un .not (.t 4)),zm 6 5,zw 6 true 7 (zg 1 1),zj 6 true 8 (.call (.t 7) []),zv 9 (.pick (.t 6) (.t 8) (.c (.bool false))),zm 10 9,zw 10 true 11 (zg 1 0),zj 10 true 12 (zk 155 [zI 11,((.c (.str [125])),.id)]),zw 10 true 13 (.un .not (.t 12)),zv 14 (.pick (.t 10) (.t 13) (.c (.bool false))),zm 2 14]
def k0ey:IC:=(.seq qb95 (.seq qcbf .ret))
@[go_sem] def s0ey:List (RV×Co):=[(.t 2,.id)]
theorem c0ey:cFun Tryz.prog 204 = some (15,k0ey,s0ey):=by kernel_rfl

def qb1h:IC:=zr [zv 4 zf]
def qbvd:IC:=zr [zm 5 0,zv 6 (.len true (.t 5)),zm 7 1,zv 8 (.len true (.t 7)),zv 9 (.bin .geq .no (.t 6) (.t 8)),zm 10 9,zw 10 true 11 (zo 0),zw 10 true 12 (zo 1),zw 10 true 13 (.len true (.t 12)),zw 10 true 14 (.sls (.t 11) none (some (.t 13))),zw 10 true 15 (zo 1),zw 10 true 16 (zq (.t 14) (.t 15)),zv 17 (.pick (.t 10) (.t 16) (.c (.bool false))),zm 4 17]
def k0da:IC:=(.seq qb1h (.seq qbvd .ret))
@[go_sem] def s0da:List (RV×Co):=[(.t 4,.id)]
theorem c0da:cFun Tryz.prog 209 = some (18,k0da,s0da):=by kernel_rfl

end Go.Proofs.YtlmcofjcpadmiaaGreat
