/- A text of this proof. -/
import Derived.Test.YtlmcofjcpadmiaaPah
import Derived.Test.YtlmcofjcpadmiaaProg
set_option linter.unusedVariables false
set_option linter.unusedSimpArgs false
/- The compiled code of the functions. -/
namespace Go.Proofs.Ytlmcofjcpadmiaa
open Go Go.V
@[reducible] def zm (d s:Nat):GI:=⟨none,some d,.v (.mov (.t s))⟩
@[reducible] def zv (d:Nat) (x:IV):GI:=⟨none,some d,.v x⟩
@[reducible] def zi (d:Nat) (i:I):GI:=⟨none,some d,i⟩
@[reducible] def zn (i:I):GI:=⟨none,none,i⟩
@[reducible] def zw (j:Nat) (b:Bool) (d:Nat) (x:IV):GI:=⟨some (j,b),some d,.v x⟩
@[reducible] def zp (g:GI):GI×List Nat:=(g,[])
@[reducible] def zN:Co:=.agg [.id,.id,.id,.id,(.sl 5)]
@[reducible] def zC:Co:=.agg [(.sl 4),.id,.id,.id,.id,.id,.id,.id]
@[reducible] def zaN:I:=.alo [(.int .i64 0),(.int .i64 0),(.int .i64 0),(.str []),.nils]
@[reducible] def zaC:I:=.alo [.nils,(.int .i64 0),(.int .i64 0),(.int .i64 0),(.str []),(.int .i64 0),(.int .i64 0),(.int .i64 0)]
@[reducible] def zaT:I:=.alo [(.int .i64 0),(.int .i64 0),(.int .i64 0),(.str [])]
@[reducible] def zZ:AV:=.agg [(.int .i64 0),(.int .i64 0),(.int .i64 0),(.str []),.nils]
@[reducible] def zc (n:Int):Opd:=.c (.int .i64 n)
@[reducible] def zf:IV:=.mov (.c (.bool false))
@[reducible] def zr (l:List GI):IC:=.reg false l
@[reducible] def zk (f:FuncId) (l:List (Opd×Co)):I:=.call (.c (.fn f [] [])) l
@[reducible] def zA (n:Nat):Opd×Co:=(.t n,zN)
@[reducible] def zI (n:Nat):Opd×Co:=(.t n,.id)
@[reducible] def zx (n k:Nat):IV:=.ext (.t n) k
@[reducible] def zl (n k:Nat):IV:=.ld true n (.t k)
@[reducible] def zg (n k:Nat):IV:=.ld false n (.t k)
@[reducible] def zd (n k:Nat):IV:=.fad (.t n) k
@[reducible] def zq (a b:Opd):IV:=.bin .eql .no a b
@[reducible] def zo (n:Nat):IV:=.mov (.t n)
@[reducible] def zj (j:Nat) (b:Bool) (d:Nat) (i:I):GI:=⟨some (j,b),some d,i⟩
def q82:IC:=zr [zi 2 (.box (.t 0)),zi 3 (.box (.t 1)),zv 4 zf]
def q7p:IC:=zr [zv 5 (zl 5 2),zi 6 (zk 4 [zA 5]),zv 7 (zq (.t 6) (zc 0)),zm 8 7,zw 8 false 9 (zl 5 3),zj 8 false 10 (zk 4 [zA 9]),zw 8 false 11 (zq (.t 10) (zc 0)),zv 12 (.pick (.t 8) (.c (.bool true)) (.t 11)),zm 13 12,zw 13 false 14 (zl 5 2),zj 13 false 15 (zk 5 [zA 14]),zw 13 false 16 (.un .not (.t 15)),zv 17 (.pick (.t 13) (.c (.bool true)) (.t 16)),zm 18 17,zw 18 false 19 (zl 5 3),zj 18 false 20 (zk 5 [zA 19]),zw 18 false 21 (.un .not (.t 20)),zv 22 (.pick (.t 18) (.c (.bool true)) (.t 21)),zm 23 22,zw 23 false 24 (zl 5 2),zj 23 false 25 (zk 6 [zA 24]),zw 23 false 26 (.len true (.t 25)),zw 23 false 27 (.bin .gtr .no (.t 26) (zc 100000)),zv 28 (.pick (.t 23) (.c (.bool true)) (.t 27))]
def q8x:IC:=zr [zi 29 (zk 7 []),zm 4 29]
def q7w:IC:=.drw [zp (zv 30 (zl 5 2)),(zi 31 (zk 6 [zA 30]),[]),(zv 32 (zl 5 3),[1]),(zi 33 (zk 6 [zA 32]),[]),zp (zv 34 (zq (.t 31) (.t 33))),(zv 35 (zl 5 2),[1,3]),(zv 36 (zl 5 3),[1,3]),(zi 37 (zk 8 [zA 35,zA 36]),[]),zp (zv 38 (.bin .eql .bool (.t 34) (.t 37))),zp (zm 39 38),(zj 39 true 40 (zk 7 []),[]),zp (zv 41 (.pick (.t 39) (.t 40) (.c (.bool false)))),zp (zm 4 41)]
def k0cj:IC:=(.seq q82 (.seq (.seq q7p (.cond (.t 28) (.seq q8x .ret) .skip)) (.seq q7w .ret)))
@[go_sem] def s0cj:List (RV×Co):=[(.t 4,.id)]
theorem c0cj:cFun Try.prog 3 = some (42,k0cj,s0cj):=by kernel_rfl

def q3q:IC:=zr [zi 1 (.box (.t 0)),zv 2 (.mov (zc 0))]
def q3d:IC:=zr [zv 3 (zl 5 1),zi 4 (zk 9 [zA 3,((zc 3000),.id)]),zv 5 (.bin .lss .no (.t 4) (zc 0))]
def q5y:IC:=zr [zv 2 (.mov (zc 0))]
def q81:IC:=zr [zv 2 (.mov (zc 1))]
def k0cb:IC:=(.seq q3q (.seq (.seq q3d (.cond (.t 5) (.seq q5y .ret) .skip)) (.seq q81 .ret)))
@[go_sem] def s0cb:List (RV×Co):=[(.t 2,.id)]
theorem c0cb:cFun Try.prog 4 = some (6,k0cb,s0cb):=by kernel_rfl

def q62:IC:=zr [zi 1 (.box (.t 0)),zv 2 zf]
def q2h:IC:=zr [zv 3 (zl 5 1),zi 4 (zk 10 [zA 3]),zm 5 4,zw 5 true 6 (zl 5 1),zj 5 true 7 (zk 11 [zA 6]),zv 8 (.pick (.t 5) (.t 7) (.c (.bool false))),zm 2 8]
def k0bh:IC:=(.seq q62 (.seq q2h .ret))
@[go_sem] def s0bh:List (RV×Co):=[(.t 2,.id)]
theorem c0bh:cFun Try.prog 5 = some (9,k0bh,s0bh):=by kernel_rfl

def qba5:IC:=zr [zi 1 (.box (.t 0)),zv 2 (.mov (.c (.str [])))]
def qbaw:IC:=.drw [zp (zv 3 (zl 5 1)),(zi 4 (zk 5 [zA 3]),[]),(zv 5 (zl 5 1),[1]),(zv 6 (.bld [(.int .i64 0),(.int .i64 0),(.int .i64 0),(.str []),.nils] [(0,5,(.t 5))]),[]),(zv 7 (.mki 33 (.t 6) zN),[1]),(zi 8 (zk 12 [zI 4,zI 7]),[]),zp (zm 2 8)]
def k0e:IC:=(.seq qba5 (.seq qbaw .ret))
@[go_sem] def s0e:List (RV×Co):=[(.t 2,.id)]
theorem c0e:cFun Try.prog 6 = some (9,k0e,s0e):=by kernel_rfl

def qba6:IC:=zr [zv 0 zf]
def qbes:IC:=zr [zv 5 (.bld [(.int .i64 0),(.int .i64 0),(.int .i64 0),(.str []),.nils] [(0,1,(zc 21)),(3,1,(.c (.str [120])))]),zi 1 zaN,zn (.st 5 zN (.t 1) (.t 5))]
def qbbt:IC:=zr [zv 6 (.bld [(.int .i64 0),(.int .i64 0),(.int .i64 0),(.str []),.nils] [(0,1,(zc 21)),(3,1,(.c (.str [102])))]),zv 7 (zl 5 1),zv 8 (.bsl 5 [zA 6,zA 7]),zv 9 (.bld [(.int .i64 0),(.int .i64 0),(.int .i64 0),(.str []),.nils] [(0,1,(zc 24)),(4,1,(.t 8))]),zv 10 (.bsl 5 [zA 9]),zv 11 (.bld [(.int .i64 0),(.int .i64 0),(.int .i64 0),(.str []),.nils] [(0,1,(zc 25)),(3,1,(.c (.str [120]))),(4,1,(.t 10))]),zi 2 zaN,zn (.st 5 zN (.t 2) (.t 11))]
def qbdp:IC:=zr [zv 12 (.bld [(.int .i64 0),(.int .i64 0),(.int .i64 0),(.str []),.nils] [(0,1,(zc 1)),(3,1,(.c (.str [97])))]),zi 3 zaN,zn (.st 5 zN (.t 3) (.t 12))]
def q97:IC:=zr [zv 13 (zl 5 3),zv 14 (zl 5 3),zv 15 (.bsl 5 [zA 13,zA 14]),zv 16 (.bld [(.int .i64 0),(.int .i64 0),(.int .i64 0),(.str []),.nils] [(0,1,(zc 2)),(3,1,(.c (.str [45,62]))),(4,1,(.t 15))]),zv 17 (zl 5 3),zv 18 (.bsl 5 [zA 16,zA 17]),zv 19 (.bld [(.int .i64 0),(.int .i64 0),(.int .i64 0),(.str []),.nils] [(0,1,(zc 2)),(3,1,(.c (.str [45,62]))),(4,1,(.t 18))]),zi 4 zaN,zn (.st 5 zN (.t 4) (.t 19))]
def qbat:IC:=zr [zv 20 (zl 5 2),zi 21 (zk 6 [zA 20]),zv 22 (zq (.t 21) (.c (.str [92,32,120,32,45,62,32,102,32,120]))),zm 23 22,zw 23 true 24 (zl 5 4),zj 23 true 25 (zk 13 [zA 24]),zw 23 true 26 (zq (.t 25) (.c (.str [40,97,32,45,62,32,97,41,32,45,62,32,97]))),zv 27 (.pick (.t 23) (.t 26) (.c (.bool false))),zm 28 27,zw 28 true 29 (zl 5 4),zj 28 true 30 (zk 6 [zA 29]),zw 28 true 31 (zq (.t 30) (.c (.str []))),zv 32 (.pick (.t 28) (.t 31) (.c (.bool false))),zm 33 32,zw 33 true 34 (.bld [(.int .i64 0),(.int .i64 0),(.int .i64 0),(.str []),.nils] [(0,1,(zc 37))]),zj 33 true 35 (zk 14 [zA 34]),zw 33 true 36 (zq (.t 35) (.c (.str []))),zv 37 (.pick (.t 33) (.t 36) (.c (.bool false))),zm 38 37,zw 38 true 39 (zl 5 2),zw 38 true 40 (.bsl 5 [zA 39]),zw 38 true 41 (.bld [(.int .i64 0),(.int .i64 0),(.int .i64 0),(.str []),.nils] [(0,1,(zc 31)),(3,1,(.c (.str [120]))),(4,1,(.t 40))]),zj 38 true 42 (zk 15 [zA 41]),zw 38 true 43 (zq (.t 42) (.c (.str [120,32,61,32,92,32,120,32,45,62,32,102,32,120]))),zv 44 (.pick (.t 38) (.t 43) (.c (.bool false))),zm 45 44,zw 45 true 46 (.bld [(.int .i64 0),(.int .i64 0),(.int .i64 0),(.str []),.nils] [(0,1,(zc 12))]),zj 45 true 47 (zk 16 [zA 46]),zw 45 true 48 (zq (.t 47) (.c (.str [95]))),zv 49 (.pick (.t 45) (.t 48) (.c (.bool false))),zm 50 49,zw 50 true 51 (zl 5 3),zw 50 true 52 (.bsl 5 [zA 51]),zw 50 true 53 (.bld [(.int .i64 0),(.int .i64 0),(.int .i64 0),(.str []),.nils] [(0,1,(zc 4)),(4,1,(.t 52))]),zj 50 true 54 (zk 17 [zA 53]),zw 50 true 55 (zq (.t 54) (.c (.str [97]))),zv 56 (.pick (.t 50) (.t 55) (.c (.bool false))),zm 0 56]
def k0a:IC:=(.seq qba6 (.seq qbes (.seq qbbt (.seq qbdp (.seq q97 (.seq qbat .ret))))))
@[go_sem] def s0a:List (RV×Co):=[(.t 0,.id)]
theorem c0a:cFun Try.prog 7 = some (57,k0a,s0a):=by kernel_rfl

def q66:IC:=zr [zi 2 (.box (.t 0)),zi 3 (.box (.t 1)),zv 4 zf]
def q4c:IC:=zr [zv 6 (zd 2 0),zv 7 (zg 1 6),zv 8 (zd 3 0),zv 9 (zg 1 8),zv 10 (.bin .neq .no (.t 7) (.t 9)),zm 11 10,zw 11 false 12 (zd 2 3),zw 11 false 13 (zg 1 12),zw 11 false 14 (zd 3 3),zw 11 false 15 (zg 1 14),zw 11 false 16 (.bin .neq .no (.t 13) (.t 15)),zv 17 (.pick (.t 11) (.c (.bool true)) (.t 16)),zm 18 17,zw 18 false 19 (zd 2 2),zw 18 false 20 (zg 1 19),zw 18 false 21 (zd 3 2),zw 18 false 22 (zg 1 21),zw 18 false 23 (.bin .neq .no (.t 20) (.t 22)),zv 24 (.pick (.t 18) (.c (.bool true)) (.t 23)),zm 25 24,zw 25 false 26 (zd 2 4),zw 25 false 27 (zg 1 26),zw 25 false 28 (.len false (.t 27)),zw 25 false 29 (zd 3 4),zw 25 false 30 (zg 1 29),zw 25 false 31 (.len false (.t 30)),zw 25 false 32 (.bin .neq .no (.t 28) (.t 31)),zv 33 (.pick (.t 25) (.c (.bool true)) (.t 32))]
def q7f:IC:=zr [zv 4 zf]
def q72:IC:=zr [zv 34 (zd 2 4),zv 35 (zg 1 34),zv 36 (.len false (.t 35)),zv 37 (.mov (zc 0))]
def q7h:IC:=zr [zv 38 (.bin .lss .no (.t 37) (.t 36))]
def q4t:IC:=zr [zm 39 37,zm 5 39]
def q88:IC:=.drw [zp (zv 40 (zd 2 4)),zp (zv 41 (zg 1 40)),zp (zm 42 5),zp (zv 43 (.iad 5 (.t 41) (.t 42))),zp (zv 44 (zl 5 43)),zp (zv 45 (zd 3 4)),zp (zv 46 (zg 1 45)),zp (zm 47 5),zp (zv 48 (.iad 5 (.t 46) (.t 47))),zp (zv 49 (zl 5 48)),(zi 50 (zk 8 [zA 44,zA 49]),[]),zp (zv 51 (.un .not (.t 50)))]
def q5p:IC:=zr [zv 4 zf]
def q64:IC:=zr [zv 52 (.bin .add .no (.t 37) (zc 1)),zm 37 52]
def q5g:IC:=(.seq q7h (.seq (.cond (.t 38) .skip (.exit 0)) (.seq (.block 1 (.seq q4t (.seq q88 (.cond (.t 51) (.seq q5p .ret) .skip)))) q64)))
def qxi:IC:=zr [zv 4 (.mov (.c (.bool true)))]
def k0bw:IC:=(.seq q66 (.seq (.seq q4c (.cond (.t 33) (.seq q7f .ret) .skip)) (.seq (.seq q72 (.block 0 (.loop q5g))) (.seq qxi .ret))))
@[go_sem] def s0bw:List (RV×Co):=[(.t 4,.id)]
theorem c0bw:cFun Try.prog 8 = some (53,k0bw,s0bw):=by kernel_rfl

def q35:IC:=zr [zi 2 (.box (.t 0)),zv 4 (.mov (zc 0))]
def q9l:IC:=zr [zm 6 1,zv 7 (.bin .sub .no (.t 6) (zc 1)),zm 1 7]
def q8m:IC:=zr [zv 5 (.mov (zc 0))]
def q9i:IC:=zr [zm 8 5,zv 9 (zd 2 4),zv 10 (zg 1 9),zv 11 (.len false (.t 10)),zv 12 (.bin .lss .no (.t 8) (.t 11)),zm 13 12,zw 13 true 14 (zo 1),zw 13 true 15 (.bin .geq .no (.t 14) (zc 0)),zv 16 (.pick (.t 13) (.t 15) (.c (.bool false)))]
def q3o:IC:=zr [zv 19 (zd 2 4),zv 20 (zg 1 19),zm 21 5,zv 22 (.iad 5 (.t 20) (.t 21)),zv 23 (zl 5 22),zm 24 1,zi 25 (zk 9 [zA 23,zI 24]),zm 1 25]
def q6l:IC:=zr [zm 17 5,zv 18 (.bin .add .no (.t 17) (zc 1)),zm 5 18]
def q4x:IC:=(.seq (.seq q9i (.cond (.t 16) .skip (.exit 0))) (.seq (.block 1 q3o) q6l))
def q4k:IC:=zr [zm 26 1,zm 4 26]
def k0ca:IC:=(.seq q35 (.seq q9l (.seq (.seq q8m (.block 0 (.loop q4x))) (.seq q4k .ret))))
@[go_sem] def s0ca:List (RV×Co):=[(.t 4,.id)]
theorem c0ca:cFun Try.prog 9 = some (27,k0ca,s0ca):=by kernel_rfl

def q79:IC:=zr [zi 1 (.box (.t 0)),zi 2 (.alo [(.bool false)])]
def q3y:IC:=zr [zv 4 (zl 5 1),zi 5 (zk 18 [zA 4,((zc 1),.id)])]
def q42:IC:=zr [zm 8 3,zv 9 (.bin .gtr .no (.t 8) (zc 100))]
def q5o:IC:=zr [zn (.st 1 .id (.t 2) (.c (.bool false)))]
def qtn:IC:=(.block 1 (.seq q42 (.cond (.t 9) (.seq q5o .ret) .skip)))
def qu8:IC:=zr [zm 3 6]
def q2p:IC:=zr [zn (.st 1 .id (.t 2) (.c (.bool true)))]
def k0bv:IC:=(.seq q79 (.seq (.seq q3y (.block 0 (.rng (.t 5) [6,7] qu8 qtn))) (.seq q2p .ret)))
@[go_sem] def s0bv:List (RV×Co):=[(.c false 1 2,.id)]
theorem c0bv:cFun Try.prog 10 = some (10,k0bv,s0bv):=by kernel_rfl

def q31:IC:=zr [zi 1 (.box (.t 0)),zv 2 zf]
def q5t:IC:=zr [zv 5 (zd 1 4),zv 6 (zg 1 5),zv 7 (.len false (.t 6)),zm 3 7]
def q9h:IC:=zr [zv 8 (zd 1 0),zv 9 (zg 1 8)]
def q21:IC:=zr [zv 11 (zq (.t 9) (zc 21)),zm 10 11]
def q9k:IC:=zr [zv 12 (zl 5 1),zi 13 (zk 19 [zA 12,((.c (.fn 20 [] [])),.id)]),zm 14 13,zw 14 true 15 (zo 3),zw 14 true 16 (zq (.t 15) (zc 0)),zv 17 (.pick (.t 14) (.t 16) (.c (.bool false))),zm 2 17]
def q24:IC:=zr [zv 19 (zq (.t 9) (zc 22)),zm 18 19]
def q5q:IC:=zr [zv 20 (zl 5 1),zi 21 (zk 19 [zA 20,((.c (.fn 21 [] [])),.id)]),zm 22 21,zw 22 true 23 (zo 3),zw 22 true 24 (zq (.t 23) (zc 0)),zv 25 (.pick (.t 22) (.t 24) (.c (.bool false))),zm 2 25]
def q86:IC:=zr [zv 27 (zq (.t 9) (zc 23)),zm 26 27]
def q3f:IC:=zr [zv 28 (zd 1 3),zv 29 (zg 1 28),zv 30 (zq (.t 29) (.c (.str []))),zm 31 30,zw 31 true 32 (zd 1 2),zw 31 true 33 (zg 1 32),zw 31 true 34 (.bin .geq .no (.t 33) (zc 0)),zv 35 (.pick (.t 31) (.t 34) (.c (.bool false))),zm 36 35,zw 36 true 37 (zo 3),zw 36 true 38 (zq (.t 37) (zc 0)),zv 39 (.pick (.t 36) (.t 38) (.c (.bool false))),zm 2 39]
def q23:IC:=zr [zv 41 (zq (.t 9) (zc 24)),zm 40 41]
def qwu:IC:=zr [zv 42 (zl 5 1),zi 43 (zk 22 [zA 42]),zm 44 43,zw 44 true 45 (zo 3),zw 44 true 46 (zq (.t 45) (zc 2)),zv 47 (.pick (.t 44) (.t 46) (.c (.bool false))),zm 48 47,zw 48 true 49 (zd 1 4),zw 48 true 50 (zg 1 49),zj 48 true 51 (zk 23 [((.t 50),(.sl 5)),((.c (.fn 11 [] [])),.id)]),zv 52 (.pick (.t 48) (.t 51) (.c (.bool false))),zm 2 52]
def qze:IC:=zr [zv 54 (zq (.t 9) (zc 25)),zm 53 54]
def qyg:IC:=zr [zv 55 (zl 5 1),zi 56 (zk 19 [zA 55,((.c (.fn 20 [] [])),.id)]),zm 57 56,zw 57 true 58 (zo 3),zw 57 true 59 (zq (.t 58) (zc 1)),zv 60 (.pick (.t 57) (.t 59) (.c (.bool false))),zm 61 60,zw 61 true 62 (zd 1 4),zw 61 true 63 (zg 1 62),zw 61 true 64 (.iad 5 (.t 63) (zc 0)),zw 61 true 65 (zl 5 64),zj 61 true 66 (zk 11 [zA 65]),zv 67 (.pick (.t 61) (.t 66) (.c (.bool false))),zm 2 67]
def qz2:IC:=zr [zv 69 (zq (.t 9) (zc 26)),zm 68 69]
def qwv:IC:=zr [zv 4 (.mov (.c (.fn 24 [] [])))]
def q0j:IC:=zr [zv 70 (zl 5 1),zi 71 (zk 22 [zA 70]),zm 72 71,zw 72 true 73 (zo 3),zw 72 true 74 (.bin .geq .no (.t 73) (zc 2)),zv 75 (.pick (.t 72) (.t 74) (.c (.bool false))),zm 76 75,zw 76 true 77 (zd 1 4),zw 76 true 78 (zg 1 77),zw 76 true 79 (zo 3),zw 76 true 80 (.bin .sub .no (.t 79) (zc 1)),zw 76 true 81 (.slv 5 (.t 78) none (some (.t 80)) none),zw 76 true 82 (zo 4),zj 76 true 83 (zk 23 [((.t 81),(.sl 5)),zI 82]),zv 84 (.pick (.t 76) (.t 83) (.c (.bool false))),zm 85 84,zw 85 true 86 (zd 1 4),zw 85 true 87 (zg 1 86),zw 85 true 88 (zo 3),zw 85 true 89 (.bin .sub .no (.t 88) (zc 1)),zw 85 true 90 (.iad 5 (.t 87) (.t 89)),zw 85 true 91 (zl 5 90),zj 85 true 92 (zk 11 [zA 91]),zv 93 (.pick (.t 85) (.t 92) (.c (.bool false))),zm 2 93]
def qxj:IC:=zr [zv 95 (zq (.t 9) (zc 27)),zm 94 95]
def qwm:IC:=zr [zv 96 (zl 5 1),zi 97 (zk 22 [zA 96]),zm 98 97,zw 98 true 99 (zo 3),zw 98 true 100 (.bin .geq .no (.t 99) (zc 2)),zv 101 (.pick (.t 98) (.t 100) (.c (.bool false))),zm 102 101,zw 102 true 103 (zd 1 4),zw 102 true 104 (zg 1 103),zw 102 true 105 (.iad 5 (.t 104) (zc 0)),zw 102 true 106 (zl 5 105),zj 102 true 107 (zk 11 [zA 106]),zv 108 (.pick (.t 102) (.t 107) (.c (.bool false))),zm 109 108,zw 109 true 110 (zd 1 4),zw 109 true 111 (zg 1 110),zw 109 true 112 (.slv 5 (.t 111) (some (zc 1)) none none),zj 109 true 113 (zk 23 [((.t 112),(.sl 5)),((.c (.fn 27 [] [])),.id)]),zv 114 (.pick (.t 109) (.t 113) (.c (.bool false))),zm 2 114]
def qzi:IC:=zr [zv 116 (zq (.t 9) (zc 28)),zm 115 116]
def qyx:IC:=zr [zv 117 (zl 5 1),zi 118 (zk 22 [zA 117]),zm 119 118,zw 119 true 120 (zo 3),zw 119 true 121 (zq (.t 120) (zc 3)),zv 122 (.pick (.t 119) (.t 121) (.c (.bool false))),zm 123 122,zw 123 true 124 (zd 1 4),zw 123 true 125 (zg 1 124),zj 123 true 126 (zk 23 [((.t 125),(.sl 5)),((.c (.fn 11 [] [])),.id)]),zv 127 (.pick (.t 123) (.t 126) (.c (.bool false))),zm 2 127]
def qwn:IC:=zr [zv 2 zf]
def k0bk:IC:=(.seq q31 (.seq q5t (.seq (.seq q9h (.block 0 (.seq q21 (.cond (.t 10) (.seq q9k .ret) (.seq q24 (.cond (.t 18) (.seq q5q .ret) (.seq q86 (.cond (.t 26) (.seq q3f .ret) (.seq q23 (.cond (.t 40) (.seq qwu .ret) (.seq qze (.cond (.t 53) (.seq qyg .ret) (.seq qz2 (.cond (.t 68) (.seq qwv (.seq q0j .ret)) (.seq qxj (.cond (.t 94) (.seq qwm .ret) (.seq qzi (.cond (.t 115) (.seq qyx .ret) .skip)))))))))))))))))) (.seq qwn .ret))))
@[go_sem] def s0bk:List (RV×Co):=[(.t 2,.id)]
theorem c0bk:cFun Try.prog 11 = some (128,k0bk,s0bk):=by kernel_rfl

def qbga:IC:=zr [zv 4 (.mov (.c (.str [])))]
def qbau:IC:=zr [zm 5 0,zv 6 (.un .not (.t 5))]
def qbci:IC:=zr [zv 4 (.mov (.c (.str [])))]
def qbel:IC:=zr [zm 7 1,zi 8 (zk 28 [zI 7]),zm 4 8]
def k0b:IC:=(.seq qbga (.seq (.seq qbau (.cond (.t 6) (.seq qbci .ret) .skip)) (.seq qbel .ret)))
@[go_sem] def s0b:List (RV×Co):=[(.t 4,.id)]
theorem c0b:cFun Try.prog 12 = some (9,k0b,s0b):=by kernel_rfl

def qbak:IC:=zr [zi 1 (.box (.t 0)),zv 2 (.mov (.c (.str [])))]
def qbb9:IC:=.drw [zp (zv 3 (zl 5 1)),(zi 4 (zk 29 [zA 3]),[]),(zv 5 (zl 5 1),[1]),(zv 6 (.bld [(.int .i64 0),(.int .i64 0),(.int .i64 0),(.str []),.nils] [(0,5,(.t 5))]),[]),(zv 7 (.mki 41 (.t 6) zN),[1]),(zi 8 (zk 12 [zI 4,zI 7]),[]),zp (zm 2 8)]
def k0c:IC:=(.seq qbak (.seq qbb9 .ret))
@[go_sem] def s0c:List (RV×Co):=[(.t 2,.id)]
theorem c0c:cFun Try.prog 13 = some (9,k0c,s0c):=by kernel_rfl

def qbef:IC:=zr [zi 1 (.box (.t 0)),zv 2 (.mov (.c (.str [])))]
def qbb4:IC:=zr [zv 3 (zd 1 0),zv 4 (zg 1 3),zv 5 (.bin .neq .no (.t 4) (zc 37)),zm 6 5,zw 6 false 7 (zl 5 1),zj 6 false 8 (zk 30 [zA 7]),zw 6 false 9 (.un .not (.t 8)),zv 10 (.pick (.t 6) (.c (.bool true)) (.t 9))]
def qbaq:IC:=zr [zv 2 (.mov (.c (.str [])))]
def qbev:IC:=zr [zv 11 (zd 1 4),zv 12 (zg 1 11),zi 13 (zk 31 [((.t 12),(.sl 5)),((.c (.str [])),.id),((.c (.fn 32 [] [])),.id)]),zm 2 13]
def k0h:IC:=(.seq qbef (.seq (.seq qbb4 (.cond (.t 10) (.seq qbaq .ret) .skip)) (.seq qbev .ret)))
@[go_sem] def s0h:List (RV×Co):=[(.t 2,.id)]
theorem c0h:cFun Try.prog 14 = some (14,k0h,s0h):=by kernel_rfl

def qbe3:IC:=zr [zi 1 (.box (.t 0)),zv 2 (.mov (.c (.str [])))]
def qbao:IC:=.drw [zp (zv 3 (zd 1 0)),zp (zv 4 (zg 1 3)),zp (zv 5 (.bin .neq .no (.t 4) (zc 37))),zp (zm 6 5),zp (zw 6 true 7 (zl 5 1)),(zj 6 true 8 (zk 30 [zA 7]),[]),zp (zv 9 (.pick (.t 6) (.t 8) (.c (.bool false)))),(zv 10 (zl 5 1),[5]),(zv 11 (.bld [(.int .i64 0),(.int .i64 0),(.int .i64 0),(.str []),.nils] [(0,5,(.t 10))]),[]),(zv 12 (.mki 43 (.t 11) zN),[5]),(zi 13 (zk 12 [zI 9,zI 12]),[]),zp (zm 2 13)]
def k0g:IC:=(.seq qbe3 (.seq qbao .ret))
@[go_sem] def s0g:List (RV×Co):=[(.t 2,.id)]
theorem c0g:cFun Try.prog 15 = some (14,k0g,s0g):=by kernel_rfl

def q9t:IC:=zr [zi 1 (.box (.t 0)),zv 2 (.mov (.c (.str [])))]
def qbd0:IC:=.drw [zp (zv 3 (zl 5 1)),(zi 4 (zk 33 [zA 3]),[]),(zv 5 (zl 5 1),[1]),(zv 6 (.bld [(.int .i64 0),(.int .i64 0),(.int .i64 0),(.str []),.nils] [(0,5,(.t 5))]),[]),(zv 7 (.mki 44 (.t 6) zN),[1]),(zi 8 (zk 12 [zI 4,zI 7]),[]),zp (zm 2 8)]
def k0d:IC:=(.seq q9t (.seq qbd0 .ret))
@[go_sem] def s0d:List (RV×Co):=[(.t 2,.id)]
theorem c0d:cFun Try.prog 16 = some (9,k0d,s0d):=by kernel_rfl

def qbgc:IC:=zr [zi 1 (.box (.t 0)),zv 2 (.mov (.c (.str [])))]
def qbee:IC:=zr [zv 3 (zl 5 1),zv 4 (.bsl 5 [zA 3]),zv 5 (.bld [(.int .i64 0),(.int .i64 0),(.int .i64 0),(.str []),.nils] [(0,1,(zc 32)),(3,1,(.c (.str [120]))),(4,1,(.t 4))]),zi 6 (zk 30 [zA 5]),zv 7 (.un .not (.t 6))]
def qbe9:IC:=zr [zv 2 (.mov (.c (.str [])))]
def q93:IC:=zr [zv 8 (zl 5 1),zi 9 (zk 34 [zA 8]),zm 2 9]
def k0f:IC:=(.seq qbgc (.seq (.seq qbee (.cond (.t 7) (.seq qbe9 .ret) .skip)) (.seq q93 .ret)))
@[go_sem] def s0f:List (RV×Co):=[(.t 2,.id)]
theorem c0f:cFun Try.prog 17 = some (10,k0f,s0f):=by kernel_rfl

def q8e:IC:=zr [zi 2 (.box (.t 0)),zi 3 (.box (.t 1)),zv 4 (.mov (.c .nilf))]
def q5c:IC:=zr [zv 5 (.mfn 35 [] [(.t 2),(.t 3)]),zm 4 5]
def k0bz:IC:=(.seq q8e (.seq q5c .ret))
@[go_sem] def s0bz:List (RV×Co):=[(.t 4,.id)]
theorem c0bz:cFun Try.prog 18 = some (6,k0bz,s0bz):=by kernel_rfl

def q1r:IC:=zr [zi 2 (.box (.t 0)),zv 4 zf]
def q2i:IC:=zr [zv 5 (zd 2 2),zv 6 (zg 1 5),zv 7 (zq (.t 6) (zc 0)),zm 8 7,zw 8 true 9 (zo 1),zw 8 true 10 (zd 2 3),zw 8 true 11 (zg 1 10),zj 8 true 12 (.call (.t 9) [zI 11]),zv 13 (.pick (.t 8) (.t 12) (.c (.bool false))),zm 4 13]
def k0bt:IC:=(.seq q1r (.seq q2i .ret))
@[go_sem] def s0bt:List (RV×Co):=[(.t 4,.id)]
theorem c0bt:cFun Try.prog 19 = some (14,k0bt,s0bt):=by kernel_rfl

def q8u:IC:=zr [zv 2 zf]
def q7d:IC:=zr [zm 3 0,zv 4 (.bin .neq .no (.t 3) (.c (.str []))),zm 5 4,zw 5 true 6 (zo 0),zw 5 true 7 (.bin .neq .no (.t 6) (.c (.str [95]))),zv 8 (.pick (.t 5) (.t 7) (.c (.bool false))),zm 9 8,zw 9 true 10 (zo 0),zw 9 true 11 (.idx (.t 10) (zc 0)),zj 9 true 12 (zk 37 [zI 11]),zv 13 (.pick (.t 9) (.t 12) (.c (.bool false))),zm 14 13,zw 14 true 15 (zo 0),zj 14 true 16 (zk 38 [zI 15]),zv 17 (.pick (.t 14) (.t 16) (.c (.bool false))),zm 18 17,zw 18 true 19 (zo 0),zj 18 true 20 (zk 39 [zI 19]),zw 18 true 21 (.un .not (.t 20)),zv 22 (.pick (.t 18) (.t 21) (.c (.bool false))),zm 2 22]
def k0ch:IC:=(.seq q8u (.seq q7d .ret))
@[go_sem] def s0ch:List (RV×Co):=[(.t 2,.id)]
theorem c0ch:cFun Try.prog 20 = some (23,k0ch,s0ch):=by kernel_rfl

def q7r:IC:=zr [zv 2 zf]
def q3h:IC:=zr [zm 3 0,zv 4 (.bin .neq .no (.t 3) (.c (.str []))),zm 5 4,zw 5 true 6 (zo 0),zw 5 true 7 (.idx (.t 6) (zc 0)),zj 5 true 8 (zk 40 [zI 7]),zv 9 (.pick (.t 5) (.t 8) (.c (.bool false))),zm 10 9,zw 10 true 11 (zo 0),zj 10 true 12 (zk 38 [zI 11]),zv 13 (.pick (.t 10) (.t 12) (.c (.bool false))),zm 2 13]
def k0cg:IC:=(.seq q7r (.seq q3h .ret))
@[go_sem] def s0cg:List (RV×Co):=[(.t 2,.id)]
theorem c0cg:cFun Try.prog 21 = some (14,k0cg,s0cg):=by kernel_rfl

def q9e:IC:=zr [zi 1 (.box (.t 0)),zv 2 zf]
def q6v:IC:=zr [zv 3 (zd 1 3),zv 4 (zg 1 3),zv 5 (zq (.t 4) (.c (.str []))),zm 6 5,zw 6 true 7 (zd 1 2),zw 6 true 8 (zg 1 7),zw 6 true 9 (zq (.t 8) (zc 0)),zv 10 (.pick (.t 6) (.t 9) (.c (.bool false))),zm 2 10]
def k0bs:IC:=(.seq q9e (.seq q6v .ret))
@[go_sem] def s0bs:List (RV×Co):=[(.t 2,.id)]
theorem c0bs:cFun Try.prog 22 = some (11,k0bs,s0bs):=by kernel_rfl

def q7a:IC:=zr [zv 4 zf]
def q3r:IC:=zr [zm 7 0,zv 8 (.len false (.t 7)),zv 9 (.mov (zc 0))]
def q3m:IC:=zr [zv 10 (.bin .lss .no (.t 9) (.t 8))]
def q4p:IC:=zr [zv 11 (.iad 5 (.t 7) (.t 9)),zv 12 (zl 5 11),zi 6 zaN,zn (.st 5 zN (.t 6) (.t 12))]
def q7v:IC:=zr [zm 13 1,zv 14 (zl 5 6),zi 15 (.call (.t 13) [zA 14]),zv 16 (.un .not (.t 15))]
def q5a:IC:=zr [zv 4 zf]
def q9d:IC:=zr [zv 17 (.bin .add .no (.t 9) (zc 1)),zm 9 17]
def q3w:IC:=(.seq q3m (.seq (.cond (.t 10) .skip (.exit 0)) (.seq (.block 1 (.seq q4p (.seq q7v (.cond (.t 16) (.seq q5a .ret) .skip)))) q9d)))
def q8y:IC:=zr [zv 4 (.mov (.c (.bool true)))]
def k0bu:IC:=(.seq q7a (.seq (.seq q3r (.block 0 (.loop q3w))) (.seq q8y .ret)))
@[go_sem] def s0bu:List (RV×Co):=[(.t 4,.id)]
theorem c0bu:cFun Try.prog 23 = some (18,k0bu,s0bu):=by kernel_rfl

def q27:IC:=zr [zi 1 (.box (.t 0)),zv 2 zf]
def q7g:IC:=zr [zv 3 (zl 5 1),zi 4 (zk 25 [zA 3]),zm 5 4,zw 5 false 6 (zl 5 1),zj 5 false 7 (zk 26 [zA 6]),zv 8 (.pick (.t 5) (.c (.bool true)) (.t 7)),zm 2 8]
def k0bj:IC:=(.seq q27 (.seq q7g .ret))
@[go_sem] def s0bj:List (RV×Co):=[(.t 2,.id)]
theorem c0bj:cFun Try.prog 24 = some (9,k0bj,s0bj):=by kernel_rfl

def q2k:IC:=zr [zi 1 (.box (.t 0)),zv 2 zf]
def q14:IC:=zr [zv 3 (zd 1 0),zv 4 (zg 1 3),zv 5 (zq (.t 4) (zc 31)),zm 6 5,zw 6 true 7 (zl 5 1),zj 6 true 8 (zk 19 [zA 7,((.c (.fn 20 [] [])),.id)]),zv 9 (.pick (.t 6) (.t 8) (.c (.bool false))),zm 10 9,zw 10 true 11 (zd 1 4),zw 10 true 12 (zg 1 11),zw 10 true 13 (.len false (.t 12)),zw 10 true 14 (zq (.t 13) (zc 1)),zv 15 (.pick (.t 10) (.t 14) (.c (.bool false))),zm 16 15,zw 16 true 17 (zd 1 4),zw 16 true 18 (zg 1 17),zw 16 true 19 (.iad 5 (.t 18) (zc 0)),zw 16 true 20 (zl 5 19),zj 16 true 21 (zk 11 [zA 20]),zv 22 (.pick (.t 16) (.t 21) (.c (.bool false))),zm 2 22]
def k0bl:IC:=(.seq q2k (.seq q14 .ret))
@[go_sem] def s0bl:List (RV×Co):=[(.t 2,.id)]
theorem c0bl:cFun Try.prog 25 = some (23,k0bl,s0bl):=by kernel_rfl

def q4b:IC:=zr [zi 1 (.box (.t 0)),zv 2 zf]
def q2o:IC:=zr [zv 3 (zd 1 0),zv 4 (zg 1 3),zv 5 (zq (.t 4) (zc 32)),zm 6 5,zw 6 true 7 (zl 5 1),zj 6 true 8 (zk 19 [zA 7,((.c (.fn 20 [] [])),.id)]),zv 9 (.pick (.t 6) (.t 8) (.c (.bool false))),zm 10 9,zw 10 true 11 (zd 1 4),zw 10 true 12 (zg 1 11),zw 10 true 13 (.len false (.t 12)),zw 10 true 14 (zq (.t 13) (zc 1)),zv 15 (.pick (.t 10) (.t 14) (.c (.bool false))),zm 16 15,zw 16 true 17 (zd 1 4),zw 16 true 18 (zg 1 17),zw 16 true 19 (.iad 5 (.t 18) (zc 0)),zw 16 true 20 (zl 5 19),zj 16 true 21 (zk 41 [zA 20]),zv 22 (.pick (.t 16) (.t 21) (.c (.bool false))),zm 2 22]
def k0br:IC:=(.seq q4b (.seq q2o .ret))
@[go_sem] def s0br:List (RV×Co):=[(.t 2,.id)]
theorem c0br:cFun Try.prog 26 = some (23,k0br,s0br):=by kernel_rfl

def q6z:IC:=zr [zi 1 (.box (.t 0)),zv 2 zf]
def q7b:IC:=zr [zv 3 (zd 1 0),zv 4 (zg 1 3),zv 5 (zq (.t 4) (zc 15)),zm 6 5,zw 6 true 7 (zl 5 1),zj 6 true 8 (zk 22 [zA 7]),zv 9 (.pick (.t 6) (.t 8) (.c (.bool false))),zm 10 9,zw 10 true 11 (zd 1 4),zw 10 true 12 (zg 1 11),zw 10 true 13 (.len false (.t 12)),zw 10 true 14 (zq (.t 13) (zc 2)),zv 15 (.pick (.t 10) (.t 14) (.c (.bool false))),zm 16 15,zw 16 true 17 (zd 1 4),zw 16 true 18 (zg 1 17),zw 16 true 19 (.iad 5 (.t 18) (zc 0)),zw 16 true 20 (zl 5 19),zj 16 true 21 (zk 42 [zA 20]),zv 22 (.pick (.t 16) (.t 21) (.c (.bool false))),zm 23 22,zw 23 true 24 (zd 1 4),zw 23 true 25 (zg 1 24),zw 23 true 26 (.iad 5 (.t 25) (zc 1)),zw 23 true 27 (zl 5 26),zj 23 true 28 (zk 11 [zA 27]),zv 29 (.pick (.t 23) (.t 28) (.c (.bool false))),zm 2 29]
def k0bm:IC:=(.seq q6z (.seq q7b .ret))
@[go_sem] def s0bm:List (RV×Co):=[(.t 2,.id)]
theorem c0bm:cFun Try.prog 27 = some (30,k0bm,s0bm):=by kernel_rfl

def qbdo:IC:=zr [zv 2 (.mov (.c (.str [])))]
def q90:IC:=zr [zm 7 0]
def qbdx:IC:=zr [zv 8 (.tya 41 zZ (.t 7)),zv 9 (zx 8 1),zv 10 (zx 8 0)]
def qbcl:IC:=zr [zi 3 zaN,zn (.st 5 zN (.t 3) (.t 10))]
def qbdz:IC:=zr [zv 11 (zl 5 3),zi 12 (zk 43 [zA 11]),zm 2 12]
def qbfc:IC:=zr [zv 13 (.tya 44 zZ (.t 7)),zv 14 (zx 13 1),zv 15 (zx 13 0)]
def qbam:IC:=zr [zi 4 zaN,zn (.st 5 zN (.t 4) (.t 15))]
def qbem:IC:=zr [zv 16 (zl 5 4),zi 17 (zk 44 [zA 16]),zm 2 17]
def qbfg:IC:=zr [zv 18 (.tya 33 zZ (.t 7)),zv 19 (zx 18 1),zv 20 (zx 18 0)]
def qbax:IC:=zr [zi 5 zaN,zn (.st 5 zN (.t 5) (.t 20))]
def q50:IC:=zr [zv 21 (zl 5 5),zi 22 (zk 45 [zA 21]),zm 2 22]
def q44:IC:=zr [zv 23 (.tya 43 zZ (.t 7)),zv 24 (zx 23 1),zv 25 (zx 23 0)]
def q6r:IC:=zr [zi 6 zaN,zn (.st 5 zN (.t 6) (.t 25))]
def q3i:IC:=zr [zv 26 (zl 5 6),zi 27 (zk 46 [zA 26]),zm 2 27]
def q4o:IC:=zr [zv 2 (.mov (.c (.str [])))]
def k0m:IC:=(.seq qbdo (.seq (.seq q90 (.block 0 (.seq qbdx (.cond (.t 9) (.seq qbcl (.seq qbdz .ret)) (.seq qbfc (.cond (.t 14) (.seq qbam (.seq qbem .ret)) (.seq qbfg (.cond (.t 19) (.seq qbax (.seq q50 .ret)) (.seq q44 (.cond (.t 24) (.seq q6r (.seq q3i .ret)) .skip)))))))))) (.seq q4o .ret)))
@[go_sem] def s0m:List (RV×Co):=[(.t 2,.id)]
theorem c0m:cFun Try.prog 28 = some (28,k0m,s0m):=by kernel_rfl

def q4w:IC:=zr [zi 1 (.box (.t 0)),zv 2 zf]
def q9m:IC:=zr [zv 3 (zl 5 1),zi 4 (zk 10 [zA 3]),zm 5 4,zw 5 true 6 (zl 5 1),zj 5 true 7 (zk 47 [zA 6]),zv 8 (.pick (.t 5) (.t 7) (.c (.bool false))),zm 2 8]
def k0bf:IC:=(.seq q4w (.seq q9m .ret))
@[go_sem] def s0bf:List (RV×Co):=[(.t 2,.id)]
theorem c0bf:cFun Try.prog 29 = some (9,k0bf,s0bf):=by kernel_rfl

def q9o:IC:=zr [zi 1 (.box (.t 0)),zv 2 zf]
def q56:IC:=zr [zv 3 (zd 1 0),zv 4 (zg 1 3),zv 5 (zq (.t 4) (zc 37))]
def q9n:IC:=zr [zv 6 (zl 5 1),zi 7 (zk 10 [zA 6]),zm 8 7,zw 8 true 9 (zl 5 1),zj 8 true 10 (zk 22 [zA 9]),zv 11 (.pick (.t 8) (.t 10) (.c (.bool false))),zm 12 11,zw 12 true 13 (zd 1 4),zw 12 true 14 (zg 1 13),zj 12 true 15 (zk 23 [((.t 14),(.sl 5)),((.c (.fn 48 [] [])),.id)]),zv 16 (.pick (.t 12) (.t 15) (.c (.bool false))),zm 2 16]
def q39:IC:=zr [zv 17 (zl 5 1),zi 18 (zk 10 [zA 17]),zm 19 18,zw 19 true 20 (zl 5 1),zj 19 true 21 (zk 48 [zA 20]),zv 22 (.pick (.t 19) (.t 21) (.c (.bool false))),zm 2 22]
def k0bi:IC:=(.seq q9o (.seq (.seq q56 (.cond (.t 5) (.seq q9n .ret) .skip)) (.seq q39 .ret)))
@[go_sem] def s0bi:List (RV×Co):=[(.t 2,.id)]
theorem c0bi:cFun Try.prog 30 = some (23,k0bi,s0bi):=by kernel_rfl

def qbfd:IC:=zr [zv 6 (.mov (.c (.str [])))]
def qbcr:IC:=zr [zm 10 0,zv 11 (.len false (.t 10)),zi 12 (.mks 1 (.str []) 16 (.t 11) (.t 11)),zm 7 12]
def qbbw:IC:=zr [zm 13 0,zv 14 (.len false (.t 13)),zv 15 (.mov (zc 0))]
def qbd3:IC:=zr [zv 16 (.bin .lss .no (.t 15) (.t 14))]
def qbc5:IC:=zr [zm 17 15,zv 18 (.iad 5 (.t 13) (.t 15)),zv 19 (zl 5 18),zi 9 zaN,zm 8 17,zn (.st 5 zN (.t 9) (.t 19))]
def qbdy:IC:=zr [zm 20 7,zm 21 8,zm 22 2,zv 23 (zl 5 9),zi 24 (.call (.t 22) [zA 23]),zv 25 (.iad 1 (.t 20) (.t 21)),zn (.st 1 .id (.t 25) (.t 24))]
def qbfe:IC:=zr [zv 26 (.bin .add .no (.t 15) (zc 1)),zm 15 26]
def qbc2:IC:=(.seq qbd3 (.seq (.cond (.t 16) .skip (.exit 0)) (.seq (.block 1 (.seq qbc5 qbdy)) qbfe)))
def qbdi:IC:=zr [zm 27 7,zm 28 1,zi 29 (zk 49 [((.t 27),(.sl 1)),zI 28]),zm 6 29]
def k0u:IC:=(.seq qbfd (.seq qbcr (.seq (.seq qbbw (.block 0 (.loop qbc2))) (.seq qbdi .ret))))
@[go_sem] def s0u:List (RV×Co):=[(.t 6,.id)]
theorem c0u:cFun Try.prog 31 = some (30,k0u,s0u):=by kernel_rfl

def qbb3:IC:=zr [zi 1 (.box (.t 0)),zv 2 (.mov (.c (.str [])))]
def qbd5:IC:=zr [zv 3 (zl 5 1),zv 4 (.bld [(.int .i64 0),(.int .i64 0),(.int .i64 0),(.str []),.nils] [(0,5,(.t 3))]),zv 5 (.mki 43 (.t 4) zN),zi 6 (zk 28 [zI 5]),zv 7 (.bin .add .no (.t 6) (.c (.str [59,10]))),zm 2 7]
def k0i:IC:=(.seq qbb3 (.seq qbd5 .ret))
@[go_sem] def s0i:List (RV×Co):=[(.t 2,.id)]
theorem c0i:cFun Try.prog 32 = some (8,k0i,s0i):=by kernel_rfl

def q2x:IC:=zr [zi 1 (.box (.t 0)),zv 2 zf]
def q5f:IC:=zr [zv 3 (zl 5 1),zi 4 (zk 10 [zA 3]),zm 5 4,zw 5 true 6 (zl 5 1),zj 5 true 7 (zk 42 [zA 6]),zv 8 (.pick (.t 5) (.t 7) (.c (.bool false))),zm 2 8]
def k0bg:IC:=(.seq q2x (.seq q5f .ret))
@[go_sem] def s0bg:List (RV×Co):=[(.t 2,.id)]
theorem c0bg:cFun Try.prog 33 = some (9,k0bg,s0bg):=by kernel_rfl

def qbf4:IC:=zr [zi 1 (.box (.t 0)),zv 2 (.mov (.c (.str [])))]
def qbfv:IC:=zr [zv 4 (zd 1 4),zv 5 (zg 1 4),zv 6 (.len false (.t 5)),zv 7 (.bin .sub .no (.t 6) (zc 1)),zm 3 7]
def qbc3:IC:=.drw [zp (zv 8 (zd 1 4)),zp (zv 9 (zg 1 8)),zp (zm 10 3),zp (zv 11 (.slv 5 (.t 9) none (some (.t 10)) none)),(zi 12 (zk 50 [((.t 11),(.sl 5))]),[]),zp (zv 13 (zd 1 4)),(zv 14 (zg 1 13),[4]),zp (zm 15 3),zp (zv 16 (.iad 5 (.t 14) (.t 15))),(zv 17 (zl 5 16),[4]),(zv 18 (.bld [(.int .i64 0),(.int .i64 0),(.int .i64 0),(.str []),.nils] [(0,5,(.t 17))]),[]),(zv 19 (.mki 41 (.t 18) zN),[4]),(zi 20 (zk 28 [zI 19]),[]),zp (zv 21 (.bin .add .no (.t 12) (.t 20))),zp (zm 2 21)]
def k0z:IC:=(.seq qbf4 (.seq qbfv (.seq qbc3 .ret)))
@[go_sem] def s0z:List (RV×Co):=[(.t 2,.id)]
theorem c0z:cFun Try.prog 34 = some (22,k0z,s0z):=by kernel_rfl

def q41:IC:=zr [zv 4 (zl 5 1),zv 5 (zg 1 2),zm 6 0,zi 7 (zk 36 [zA 4,zI 5,zI 6])]
def k0by:IC:=q41
@[go_sem] def s0by:List (RV×Co):=[]
theorem c0by:cFun Try.prog 35 = some (8,k0by,s0by):=by kernel_rfl

def q20:IC:=zr [zi 3 (.box (.t 0)),zv 6 zf]
def q17:IC:=zr [zm 9 2,zm 10 1,zv 11 (zl 5 3),zi 12 (.call (.t 9) [zI 10,zA 11]),zv 13 (.un .not (.t 12))]
def q8f:IC:=zr [zv 6 zf]
def q8j:IC:=zr [zv 14 (zd 3 4),zv 15 (zg 1 14),zv 16 (.len false (.t 15)),zv 17 (.mov (zc 0))]
def q4g:IC:=zr [zv 18 (.bin .lss .no (.t 17) (.t 16))]
def q4j:IC:=zr [zv 19 (.iad 5 (.t 15) (.t 17)),zv 20 (zl 5 19),zi 8 zaN,zn (.st 5 zN (.t 8) (.t 20))]
def q22:IC:=zr [zv 21 (zl 5 8),zm 22 1,zv 23 (.bin .add .no (.t 22) (zc 1)),zm 24 2,zi 25 (zk 36 [zA 21,zI 23,zI 24]),zv 26 (.un .not (.t 25))]
def q6u:IC:=zr [zv 6 zf]
def q63:IC:=zr [zv 27 (.bin .add .no (.t 17) (zc 1)),zm 17 27]
def q37:IC:=(.seq q4g (.seq (.cond (.t 18) .skip (.exit 0)) (.seq (.block 1 (.seq q4j (.seq q22 (.cond (.t 26) (.seq q6u .ret) .skip)))) q63)))
def qz4:IC:=zr [zv 6 (.mov (.c (.bool true)))]
def k0bx:IC:=(.seq q20 (.seq (.seq q17 (.cond (.t 13) (.seq q8f .ret) .skip)) (.seq (.seq q8j (.block 0 (.loop q37))) (.seq qz4 .ret))))
@[go_sem] def s0bx:List (RV×Co):=[(.t 6,.id)]
theorem c0bx:cFun Try.prog 36 = some (28,k0bx,s0bx):=by kernel_rfl

def q1t:IC:=zr [zv 2 zf]
def q2f:IC:=zr [zm 3 0,zv 4 (.bin .geq .no (.t 3) (.c (.int .u8 97))),zm 5 4,zw 5 true 6 (zo 0),zw 5 true 7 (.bin .leq .no (.t 6) (.c (.int .u8 122))),zv 8 (.pick (.t 5) (.t 7) (.c (.bool false))),zm 9 8,zw 9 false 10 (zo 0),zw 9 false 11 (zq (.t 10) (.c (.int .u8 95))),zv 12 (.pick (.t 9) (.c (.bool true)) (.t 11)),zm 2 12]
def k0cc:IC:=(.seq q1t (.seq q2f .ret))
@[go_sem] def s0cc:List (RV×Co):=[(.t 2,.id)]
theorem c0cc:cFun Try.prog 37 = some (13,k0cc,s0cc):=by kernel_rfl

def q9b:IC:=zr [zv 2 zf]
def q7m:IC:=zr [zm 5 0,zv 6 (.len true (.t 5)),zv 7 (.mov (zc 0))]
def q75:IC:=zr [zv 8 (.bin .lss .no (.t 7) (.t 6))]
def q4f:IC:=zr [zm 9 7,zm 3 9]
def q8k:IC:=zr [zm 10 0,zm 11 3,zv 12 (.idx (.t 10) (.t 11)),zm 4 12]
def q2j:IC:=zr [zm 13 4,zi 14 (zk 37 [zI 13]),zv 15 (.un .not (.t 14)),zm 16 15,zw 16 true 17 (zo 4),zj 16 true 18 (zk 40 [zI 17]),zw 16 true 19 (.un .not (.t 18)),zv 20 (.pick (.t 16) (.t 19) (.c (.bool false))),zm 21 20,zw 21 true 22 (zo 4),zw 21 true 23 (.bin .lss .no (.t 22) (.c (.int .u8 48))),zw 21 true 24 (zo 23),zw 24 false 25 (zo 4),zw 24 false 26 (.bin .gtr .no (.t 25) (.c (.int .u8 57))),zw 21 true 27 (.pick (.t 24) (.c (.bool true)) (.t 26)),zv 28 (.pick (.t 21) (.t 27) (.c (.bool false))),zm 29 28,zw 29 true 30 (zo 4),zw 29 true 31 (.bin .neq .no (.t 30) (.c (.int .u8 39))),zv 32 (.pick (.t 29) (.t 31) (.c (.bool false)))]
def q8c:IC:=zr [zv 2 zf]
def q6b:IC:=zr [zv 33 (.bin .add .no (.t 7) (zc 1)),zm 7 33]
def q36:IC:=(.seq q75 (.seq (.cond (.t 8) .skip (.exit 0)) (.seq (.block 1 (.seq q4f (.seq q8k (.seq q2j (.cond (.t 32) (.seq q8c .ret) .skip))))) q6b)))
def qyw:IC:=zr [zv 2 (.mov (.c (.bool true)))]
def k0ce:IC:=(.seq q9b (.seq (.seq q7m (.block 0 (.loop q36))) (.seq qyw .ret)))
@[go_sem] def s0ce:List (RV×Co):=[(.t 2,.id)]
theorem c0ce:cFun Try.prog 38 = some (34,k0ce,s0ce):=by kernel_rfl

def q89:IC:=zr [zv 2 zf]
def q9f:IC:=zr [zv 3 zf]
def q5n:IC:=zr [zv 6 (.bld [(.str []),(.str []),(.str []),(.str []),(.str []),(.str []),(.str []),(.str []),(.str []),(.str []),(.str [])] [(0,1,(.c (.str [100,97,116,97]))),(1,1,(.c (.str [99,108,97,115,115]))),(2,1,(.c (.str [105,110,115,116,97,110,99,101]))),(3,1,(.c (.str [119,104,101,114,101]))),(4,1,(.c (.str [108,101,116]))),(5,1,(.c (.str [105,110]))),(6,1,(.c (.str [99,97,115,101]))),(7,1,(.c (.str [111,102]))),(8,1,(.c (.str [105,102]))),(9,1,(.c (.str [116,104,101,110]))),(10,1,(.c (.str [101,108,115,101])))]),zv 7 (.mov (zc 0))]
def q51:IC:=zr [zv 8 (.bin .lss .no (.t 7) (zc 11))]
def q8z:IC:=zr [zv 9 (.ida false 1 11 (.t 6) (.t 7)),zm 5 9]
def q5h:IC:=zr [zm 10 5,zm 11 0,zv 12 (.bin .neq .no (.t 10) (.t 11))]
def q1o:IC:=zr [zv 3 (.mov (.c (.bool true)))]
def q7y:IC:=zr [zv 13 (.bin .add .no (.t 7) (zc 1)),zm 7 13]
def q7n:IC:=(.seq q51 (.seq (.cond (.t 8) .skip (.exit 0)) (.seq (.block 1 (.seq q8z (.seq (.seq q5h (.cond (.t 12) (.exit 1) .skip)) (.seq q1o (.exit 0))))) q7y)))
def qyy:IC:=zr [zm 14 3,zm 2 14]
def k0cf:IC:=(.seq q89 (.scope (.seq q9f (.seq (.label 0) (.seq (.seq q5n (.block 0 (.loop q7n))) (.seq qyy .ret))))))
@[go_sem] def s0cf:List (RV×Co):=[(.t 2,.id)]
theorem c0cf:cFun Try.prog 39 = some (15,k0cf,s0cf):=by kernel_rfl

def q8a:IC:=zr [zv 2 zf]
def q6y:IC:=zr [zm 3 0,zv 4 (.bin .geq .no (.t 3) (.c (.int .u8 65))),zm 5 4,zw 5 true 6 (zo 0),zw 5 true 7 (.bin .leq .no (.t 6) (.c (.int .u8 90))),zv 8 (.pick (.t 5) (.t 7) (.c (.bool false))),zm 2 8]
def k0cd:IC:=(.seq q8a (.seq q6y .ret))
@[go_sem] def s0cd:List (RV×Co):=[(.t 2,.id)]
theorem c0cd:cFun Try.prog 40 = some (9,k0cd,s0cd):=by kernel_rfl

def q6f:IC:=zr [zi 1 (.box (.t 0)),zv 2 zf]
def q8r:IC:=zr [zv 4 (zd 1 4),zv 5 (zg 1 4),zv 6 (.len false (.t 5)),zv 7 (.bin .sub .no (.t 6) (zc 1)),zm 3 7]
def q38:IC:=zr [zv 8 (zd 1 0),zv 9 (zg 1 8),zv 10 (zq (.t 9) (zc 4)),zm 11 10,zw 11 true 12 (zl 5 1),zj 11 true 13 (zk 22 [zA 12]),zv 14 (.pick (.t 11) (.t 13) (.c (.bool false))),zm 15 14,zw 15 true 16 (zo 3),zw 15 true 17 (.bin .geq .no (.t 16) (zc 0)),zv 18 (.pick (.t 15) (.t 17) (.c (.bool false))),zm 19 18,zw 19 true 20 (zd 1 4),zw 19 true 21 (zg 1 20),zw 19 true 22 (zo 3),zw 19 true 23 (.slv 5 (.t 21) none (some (.t 22)) none),zj 19 true 24 (zk 23 [((.t 23),(.sl 5)),((.c (.fn 51 [] [])),.id)]),zv 25 (.pick (.t 19) (.t 24) (.c (.bool false))),zm 26 25,zw 26 true 27 (zd 1 4),zw 26 true 28 (zg 1 27),zw 26 true 29 (zo 3),zw 26 true 30 (.iad 5 (.t 28) (.t 29)),zw 26 true 31 (zl 5 30),zj 26 true 32 (zk 47 [zA 31]),zv 33 (.pick (.t 26) (.t 32) (.c (.bool false))),zm 2 33]
def k0bq:IC:=(.seq q6f (.seq q8r (.seq q38 .ret)))
@[go_sem] def s0bq:List (RV×Co):=[(.t 2,.id)]
theorem c0bq:cFun Try.prog 41 = some (34,k0bq,s0bq):=by kernel_rfl

def q3s:IC:=zr [zi 1 (.box (.t 0)),zv 2 zf]
def q4h:IC:=zr [zv 3 (zd 1 0),zv 4 (zg 1 3)]
def q6t:IC:=zr [zv 6 (zq (.t 4) (zc 11)),zm 5 6]
def q4d:IC:=zr [zv 7 (zl 5 1),zi 8 (zk 19 [zA 7,((.c (.fn 20 [] [])),.id)]),zm 9 8,zw 9 true 10 (zd 1 4),zw 9 true 11 (zg 1 10),zw 9 true 12 (.len false (.t 11)),zw 9 true 13 (zq (.t 12) (zc 0)),zv 14 (.pick (.t 9) (.t 13) (.c (.bool false))),zm 2 14]
def q4i:IC:=zr [zv 16 (zq (.t 4) (zc 12)),zm 15 16]
def q8d:IC:=zr [zv 17 (zl 5 1),zi 18 (zk 22 [zA 17]),zm 19 18,zw 19 true 20 (zd 1 4),zw 19 true 21 (zg 1 20),zw 19 true 22 (.len false (.t 21)),zw 19 true 23 (zq (.t 22) (zc 0)),zv 24 (.pick (.t 19) (.t 23) (.c (.bool false))),zm 2 24]
def q15:IC:=zr [zv 26 (zq (.t 4) (zc 13)),zm 25 26]
def q48:IC:=zr [zv 27 (zd 1 3),zv 28 (zg 1 27),zv 29 (zq (.t 28) (.c (.str []))),zm 30 29,zw 30 true 31 (zd 1 2),zw 30 true 32 (zg 1 31),zw 30 true 33 (.bin .geq .no (.t 32) (zc 0)),zv 34 (.pick (.t 30) (.t 33) (.c (.bool false))),zm 35 34,zw 35 true 36 (zd 1 4),zw 35 true 37 (zg 1 36),zw 35 true 38 (.len false (.t 37)),zw 35 true 39 (zq (.t 38) (zc 0)),zv 40 (.pick (.t 35) (.t 39) (.c (.bool false))),zm 2 40]
def q6p:IC:=zr [zv 42 (zq (.t 4) (zc 14)),zm 41 42]
def q9g:IC:=zr [zv 43 (zl 5 1),zi 44 (zk 19 [zA 43,((.c (.fn 21 [] [])),.id)]),zm 45 44,zw 45 true 46 (zd 1 4),zw 45 true 47 (zg 1 46),zj 45 true 48 (zk 23 [((.t 47),(.sl 5)),((.c (.fn 42 [] [])),.id)]),zv 49 (.pick (.t 45) (.t 48) (.c (.bool false))),zm 2 49]
def qx8:IC:=zr [zv 2 zf]
def k0bo:IC:=(.seq q3s (.seq (.seq q4h (.block 0 (.seq q6t (.cond (.t 5) (.seq q4d .ret) (.seq q4i (.cond (.t 15) (.seq q8d .ret) (.seq q15 (.cond (.t 25) (.seq q48 .ret) (.seq q6p (.cond (.t 41) (.seq q9g .ret) .skip)))))))))) (.seq qx8 .ret)))
@[go_sem] def s0bo:List (RV×Co):=[(.t 2,.id)]
theorem c0bo:cFun Try.prog 42 = some (50,k0bo,s0bo):=by kernel_rfl

def qba8:IC:=zr [zi 1 (.box (.t 0)),zv 2 (.mov (.c (.str [])))]
def qbcy:IC:=zr [zv 4 (zd 1 0),zv 5 (zl 5 4),zi 3 zaN,zn (.st 5 zN (.t 3) (.t 5))]
def qbfx:IC:=zr [zv 6 (zd 3 0),zv 7 (zg 1 6),zv 8 (.bin .neq .no (.t 7) (zc 1)),zm 9 8,zw 9 true 10 (zd 3 3),zw 9 true 11 (zg 1 10),zw 9 true 12 (zq (.t 11) (.c (.str [45,62]))),zv 13 (.pick (.t 9) (.t 12) (.c (.bool false)))]
def qbbz:IC:=.drw [zp (zv 14 (zd 3 4)),zp (zv 15 (zg 1 14)),zp (zv 16 (.iad 5 (.t 15) (zc 0))),zp (zv 17 (zl 5 16)),(zv 18 (.bld [(.int .i64 0),(.int .i64 0),(.int .i64 0),(.str []),.nils] [(0,5,(.t 17))]),[]),(zv 19 (.mki 41 (.t 18) zN),[]),zp (zv 20 (zd 3 4)),zp (zv 21 (zg 1 20)),zp (zv 22 (.iad 5 (.t 21) (zc 0))),zp (zv 23 (zd 22 3)),zp (zv 24 (zg 1 23)),(zv 25 (.bin .neq .no (.t 24) (.c (.str [45,62]))),[]),(zi 26 (zk 52 [zI 19,zI 25]),[]),(zv 27 (.bin .add .no (.t 26) (.c (.str [32,45,62,32]))),[]),zp (zv 28 (zd 3 4)),(zv 29 (zg 1 28),[12]),zp (zv 30 (.iad 5 (.t 29) (zc 1))),(zv 31 (zl 5 30),[12]),(zv 32 (.bld [(.int .i64 0),(.int .i64 0),(.int .i64 0),(.str []),.nils] [(0,5,(.t 31))]),[]),(zv 33 (.mki 41 (.t 32) zN),[12]),(zi 34 (zk 28 [zI 33]),[]),zp (zv 35 (.bin .add .no (.t 27) (.t 34))),zp (zm 2 35)]
def qbc9:IC:=.drw [zp (zv 36 (zd 3 3)),zp (zv 37 (zg 1 36)),zp (zv 38 (zd 3 4)),zp (zv 39 (zg 1 38)),(zi 40 (zk 31 [((.t 39),(.sl 5)),((.c (.str [])),.id),((.c (.fn 53 [] [])),.id)]),[1]),zp (zv 41 (.bin .add .no (.t 37) (.t 40))),zp (zm 2 41)]
def k0w:IC:=(.seq qba8 (.seq qbcy (.seq (.seq qbfx (.cond (.t 13) (.seq qbbz .ret) .skip)) (.seq qbc9 .ret))))
@[go_sem] def s0w:List (RV×Co):=[(.t 2,.id)]
theorem c0w:cFun Try.prog 43 = some (42,k0w,s0w):=by kernel_rfl

def q2r:IC:=zr [zi 1 (.box (.t 0)),zv 2 (.mov (.c (.str [])))]
def q4z:IC:=zr [zv 3 (zd 1 0),zv 4 (zd 3 0),zv 5 (zg 1 4)]
def q5m:IC:=zr [zv 7 (zq (.t 5) (zc 12)),zm 6 7]
def q40:IC:=zr [zv 2 (.mov (.c (.str [95])))]
def q9c:IC:=zr [zv 9 (zq (.t 5) (zc 13)),zm 8 9]
def q2g:IC:=zr [zv 10 (zd 1 0),zv 11 (zd 10 2),zv 12 (zg 1 11),zi 13 (zk 54 [zI 12]),zm 2 13]
def q1s:IC:=.drw [zp (zv 14 (zd 1 0)),zp (zv 15 (zd 14 3)),zp (zv 16 (zg 1 15)),zp (zv 17 (zd 1 0)),zp (zv 18 (zd 17 4)),zp (zv 19 (zg 1 18)),(zi 20 (zk 31 [((.t 19),(.sl 5)),((.c (.str [])),.id),((.c (.fn 55 [] [])),.id)]),[2]),zp (zv 21 (.bin .add .no (.t 16) (.t 20))),zp (zm 2 21)]
def k0bb:IC:=(.seq q2r (.seq (.seq q4z (.block 0 (.seq q5m (.cond (.t 6) (.seq q40 .ret) (.seq q9c (.cond (.t 8) (.seq q2g .ret) .skip)))))) (.seq q1s .ret)))
@[go_sem] def s0bb:List (RV×Co):=[(.t 2,.id)]
theorem c0bb:cFun Try.prog 44 = some (22,k0bb,s0bb):=by kernel_rfl

def qbdj:IC:=zr [zi 1 (.box (.t 0)),zv 2 (.mov (.c (.str [])))]
def qbd6:IC:=.drw [zp (zv 8 (zd 1 0)),zp (zv 9 (zl 5 8)),zp (zv 10 (zd 1 0)),zp (zv 11 (zd 10 4)),zp (zv 12 (zg 1 11)),zp (zv 13 (.len false (.t 12))),zp (zv 14 (.bin .sub .no (.t 13) (zc 1))),(zi 3 zaN,[1,4]),(zn (.st 5 zN (.t 3) (.t 9)),[4]),zp (zm 4 14)]
def qbft:IC:=zr [zv 15 (.mfn 57 [] [(.t 3)]),zm 5 15]
def qbd8:IC:=zr [zv 16 (zd 3 0),zv 17 (zg 1 16)]
def qbav:IC:=zr [zv 19 (zq (.t 17) (zc 23)),zm 18 19]
def qbfq:IC:=zr [zv 20 (zd 3 2),zv 21 (zg 1 20),zi 22 (zk 54 [zI 21]),zm 2 22]
def qbey:IC:=zr [zv 24 (zq (.t 17) (zc 24)),zm 23 24]
def qms:IC:=.drw [zp (zv 25 (zd 3 4)),zp (zv 26 (zg 1 25)),zp (zv 27 (.iad 5 (.t 26) (zc 0))),zp (zv 28 (zl 5 27)),zp (zv 29 (zd 3 4)),zp (zv 30 (zg 1 29)),zp (zv 31 (.iad 5 (.t 30) (zc 1))),zp (zv 32 (zl 5 31)),(zi 6 zaN,[1,3,5,7]),(zi 7 zaN,[1,3,5,7,8]),(zn (.st 5 zN (.t 6) (.t 28)),[5,7]),(zn (.st 5 zN (.t 7) (.t 32)),[])]
def qbfi:IC:=.drw [zp (zv 33 (zl 5 6)),(zv 34 (.bld [(.int .i64 0),(.int .i64 0),(.int .i64 0),(.str []),.nils] [(0,5,(.t 33))]),[]),(zv 35 (.mki 33 (.t 34) zN),[]),zp (zv 36 (zl 5 6)),(zi 37 (zk 56 [zA 36]),[0,2]),zp (zm 38 37),zp (zw 38 false 39 (zd 6 0)),zp (zw 38 false 40 (zg 1 39)),zp (zw 38 false 41 (zq (.t 40) (zc 24))),zp (zv 42 (.pick (.t 38) (.c (.bool true)) (.t 41))),(zi 43 (zk 52 [zI 35,zI 42]),[]),(zv 44 (.bin .add .no (.t 43) (.c (.str [32]))),[]),(zv 45 (zl 5 7),[4,10]),(zv 46 (.bld [(.int .i64 0),(.int .i64 0),(.int .i64 0),(.str []),.nils] [(0,5,(.t 45))]),[]),(zv 47 (.mki 33 (.t 46) zN),[4,10]),(zv 48 (zl 5 7),[4,10]),(zi 49 (zk 56 [zA 48]),[12,14]),(zi 50 (zk 52 [zI 47,zI 49]),[]),zp (zv 51 (.bin .add .no (.t 44) (.t 50))),zp (zm 2 51)]
def qbdt:IC:=zr [zv 53 (zq (.t 17) (zc 25)),zm 52 53]
def q59:IC:=.drw [zp (zv 54 (zd 3 3)),zp (zv 55 (zg 1 54)),(zv 56 (.bin .add .no (.c (.str [92,32])) (.t 55)),[]),(zv 57 (.bin .add .no (.t 56) (.c (.str [32,45,62,32]))),[]),zp (zm 58 5),(zi 59 (.call (.t 58) [((zc 0),.id)]),[1]),zp (zv 60 (.bin .add .no (.t 57) (.t 59))),zp (zm 2 60)]
def q2t:IC:=zr [zv 62 (zq (.t 17) (zc 26)),zm 61 62]
def q57:IC:=zr [zv 63 (zd 3 4),zv 64 (zg 1 63),zm 65 4,zv 66 (.slv 5 (.t 64) none (some (.t 65)) none),zi 67 (zk 58 [((.t 66),(.sl 5))]),zv 68 (.bin .add .no (.c (.str [108,101,116,32])) (.t 67)),zv 69 (.bin .add .no (.t 68) (.c (.str [32,105,110,32]))),zm 70 5,zm 71 4,zi 72 (.call (.t 70) [zI 71]),zv 73 (.bin .add .no (.t 69) (.t 72)),zm 2 73]
def q6e:IC:=zr [zv 75 (zq (.t 17) (zc 27)),zm 74 75]
def q60:IC:=.drw [zp (zm 76 5),(zi 77 (.call (.t 76) [((zc 0),.id)]),[]),(zv 78 (.bin .add .no (.c (.str [99,97,115,101,32])) (.t 77)),[]),(zv 79 (.bin .add .no (.t 78) (.c (.str [32,111,102,32]))),[]),zp (zv 80 (zd 3 4)),(zv 81 (zg 1 80),[1]),(zv 82 (.slv 5 (.t 81) (some (zc 1)) none none),[1]),(zi 83 (zk 31 [((.t 82),(.sl 5)),((.c (.str [59,32])),.id),((.c (.fn 60 [] [])),.id)]),[]),(zi 84 (zk 59 [zI 83]),[]),zp (zv 85 (.bin .add .no (.t 79) (.t 84))),zp (zm 2 85)]
def q6h:IC:=zr [zv 87 (zq (.t 17) (zc 28)),zm 86 87]
def q7z:IC:=zr [zm 88 5,zi 89 (.call (.t 88) [((zc 0),.id)]),zv 90 (.bin .add .no (.c (.str [105,102,32])) (.t 89)),zv 91 (.bin .add .no (.t 90) (.c (.str [32,116,104,101,110,32]))),zm 92 5,zi 93 (.call (.t 92) [((zc 1),.id)]),zv 94 (.bin .add .no (.t 91) (.t 93)),zv 95 (.bin .add .no (.t 94) (.c (.str [32,101,108,115,101,32]))),zm 96 5,zi 97 (.call (.t 96) [((zc 2),.id)]),zv 98 (.bin .add .no (.t 95) (.t 97)),zm 2 98]
def q3z:IC:=zr [zv 99 (zd 3 3),zv 100 (zg 1 99),zm 2 100]
def k0l:IC:=(.seq qbdj (.seq qbd6 (.seq qbft (.seq (.seq qbd8 (.block 0 (.seq qbav (.cond (.t 18) (.seq qbfq .ret) (.seq qbey (.cond (.t 23) (.seq qms (.seq qbfi .ret)) (.seq qbdt (.cond (.t 52) (.seq q59 .ret) (.seq q2t (.cond (.t 61) (.seq q57 .ret) (.seq q6e (.cond (.t 74) (.seq q60 .ret) (.seq q6h (.cond (.t 86) (.seq q7z .ret) .skip)))))))))))))) (.seq q3z .ret)))))
@[go_sem] def s0l:List (RV×Co):=[(.t 2,.id)]
theorem c0l:cFun Try.prog 45 = some (101,k0l,s0l):=by kernel_rfl

def q9z:IC:=zr [zi 1 (.box (.t 0)),zv 2 (.mov (.c (.str [])))]
def qbd2:IC:=zr [zv 7 (zd 1 0),zv 8 (zl 5 7),zi 3 zaN,zn (.st 5 zN (.t 3) (.t 8))]
def qbda:IC:=zr [zv 9 (zd 3 0),zv 10 (zg 1 9)]
def qbf0:IC:=zr [zv 12 (zq (.t 10) (zc 31)),zm 11 12]
def qbb2:IC:=.drw [zp (zv 13 (zd 3 3)),zp (zv 14 (zg 1 13)),(zv 15 (.bin .add .no (.t 14) (.c (.str [32,61,32]))),[]),zp (zv 16 (zd 3 4)),zp (zv 17 (zg 1 16)),zp (zv 18 (.iad 5 (.t 17) (zc 0))),zp (zv 19 (zl 5 18)),(zv 20 (.bld [(.int .i64 0),(.int .i64 0),(.int .i64 0),(.str []),.nils] [(0,5,(.t 19))]),[]),(zv 21 (.mki 33 (.t 20) zN),[]),(zi 22 (zk 28 [zI 21]),[1]),zp (zv 23 (.bin .add .no (.t 15) (.t 22))),zp (zm 2 23)]
def qbcv:IC:=zr [zv 25 (zq (.t 10) (zc 32)),zm 24 25]
def qbe6:IC:=.drw [zp (zv 26 (zd 3 3)),zp (zv 27 (zg 1 26)),(zv 28 (.bin .add .no (.t 27) (.c (.str [32,58,58,32]))),[]),zp (zv 29 (zd 3 4)),zp (zv 30 (zg 1 29)),zp (zv 31 (.iad 5 (.t 30) (zc 0))),zp (zv 32 (zl 5 31)),(zi 33 (zk 34 [zA 32]),[1]),zp (zv 34 (.bin .add .no (.t 28) (.t 33))),zp (zm 2 34)]
def qbay:IC:=.drw [zp (zv 35 (zd 3 4)),zp (zv 36 (zg 1 35)),zp (zv 37 (zd 3 2)),zp (zv 38 (zg 1 37)),zp (zv 39 (.slv 5 (.t 36) none (some (.t 38)) none)),zp (zv 40 (zd 3 4)),zp (zv 41 (zg 1 40)),zp (zv 42 (zd 3 2)),zp (zv 43 (zg 1 42)),zp (zv 44 (.slv 5 (.t 41) (some (.t 43)) none none)),zp (zm 4 39),zp (zm 5 44)]
def qbea:IC:=zr [zv 45 (zd 3 0),zv 46 (zg 1 45)]
def qbc4:IC:=zr [zv 48 (zq (.t 46) (zc 33)),zm 47 48]
def q4a:IC:=zr [zm 49 5,zi 50 (zk 31 [((.t 49),(.sl 5)),((.c (.str [32,124,32])),.id),((.c (.fn 61 [] [])),.id)]),zm 6 50]
def q8w:IC:=.drw [zp (zv 51 (zd 3 3)),zp (zv 52 (zg 1 51)),(zv 53 (.bin .add .no (.c (.str [100,97,116,97,32])) (.t 52)),[]),zp (zm 54 4),(zi 55 (zk 31 [((.t 54),(.sl 5)),((.c (.str [])),.id),((.c (.fn 53 [] [])),.id)]),[1]),zp (zv 56 (.bin .add .no (.t 53) (.t 55))),(zv 57 (.bin .add .no (.t 56) (.c (.str [32,61,32]))),[]),zp (zm 58 6),zp (zv 59 (.bin .add .no (.t 57) (.t 58))),zp (zm 2 59)]
def q8q:IC:=zr [zv 61 (zq (.t 46) (zc 35)),zm 60 61]
def q6s:IC:=.drw [zp (zm 62 4),(zi 63 (zk 50 [((.t 62),(.sl 5))]),[]),(zv 64 (.bin .add .no (.c (.str [99,108,97,115,115,32])) (.t 63)),[]),zp (zv 65 (zd 3 3)),(zv 66 (zg 1 65),[1]),zp (zv 67 (.bin .add .no (.t 64) (.t 66))),zp (zm 68 5),zp (zv 69 (.iad 5 (.t 68) (zc 0))),(zv 70 (zl 5 69),[1]),(zi 71 (zk 53 [zA 70]),[4]),zp (zv 72 (.bin .add .no (.t 67) (.t 71))),(zv 73 (.bin .add .no (.t 72) (.c (.str [32,119,104,101,114,101,32]))),[]),zp (zm 74 5),(zv 75 (.slv 5 (.t 74) (some (zc 1)) none none),[1,9]),(zi 76 (zk 58 [((.t 75),(.sl 5))]),[4]),zp (zv 77 (.bin .add .no (.t 73) (.t 76))),zp (zm 2 77)]
def q8s:IC:=.drw [zp (zm 78 4),(zi 79 (zk 50 [((.t 78),(.sl 5))]),[]),(zv 80 (.bin .add .no (.c (.str [105,110,115,116,97,110,99,101,32])) (.t 79)),[]),zp (zv 81 (zd 3 3)),(zv 82 (zg 1 81),[1]),zp (zv 83 (.bin .add .no (.t 80) (.t 82))),zp (zm 84 5),zp (zv 85 (.iad 5 (.t 84) (zc 0))),(zv 86 (zl 5 85),[1]),(zi 87 (zk 53 [zA 86]),[4]),zp (zv 88 (.bin .add .no (.t 83) (.t 87))),(zv 89 (.bin .add .no (.t 88) (.c (.str [32,119,104,101,114,101,32]))),[]),zp (zm 90 5),(zv 91 (.slv 5 (.t 90) (some (zc 1)) none none),[1,9]),(zi 92 (zk 58 [((.t 91),(.sl 5))]),[4]),zp (zv 93 (.bin .add .no (.t 89) (.t 92))),zp (zm 2 93)]
def k0j:IC:=(.seq q9z (.seq qbd2 (.seq (.seq qbda (.block 0 (.seq qbf0 (.cond (.t 11) (.seq qbb2 .ret) (.seq qbcv (.cond (.t 24) (.seq qbe6 .ret) .skip)))))) (.seq qbay (.seq (.seq qbea (.block 1 (.seq qbc4 (.cond (.t 47) (.seq q4a (.seq q8w .ret)) (.seq q8q (.cond (.t 60) (.seq q6s .ret) .skip)))))) (.seq q8s .ret))))))
@[go_sem] def s0j:List (RV×Co):=[(.t 2,.id)]
theorem c0j:cFun Try.prog 46 = some (94,k0j,s0j):=by kernel_rfl

def q46:IC:=zr [zi 1 (.box (.t 0)),zv 2 zf]
def q2b:IC:=zr [zv 4 (zd 1 0),zv 5 (zg 1 4),zv 6 (zq (.t 5) (zc 1)),zm 3 6]
def q33:IC:=zr [zv 7 (zl 5 1),zi 8 (zk 19 [zA 7,((.c (.fn 20 [] [])),.id)]),zm 9 8,zw 9 true 10 (zd 1 4),zw 9 true 11 (zg 1 10),zw 9 true 12 (.len false (.t 11)),zw 9 true 13 (zq (.t 12) (zc 0)),zv 14 (.pick (.t 9) (.t 13) (.c (.bool false))),zm 2 14]
def q7q:IC:=zr [zv 16 (zd 1 0),zv 17 (zg 1 16),zv 18 (.bin .neq .no (.t 17) (zc 2)),zm 19 18,zw 19 false 20 (zd 1 2),zw 19 false 21 (zg 1 20),zw 19 false 22 (.bin .neq .no (.t 21) (zc 0)),zv 23 (.pick (.t 19) (.c (.bool true)) (.t 22)),zm 15 23]
def q4v:IC:=zr [zv 2 zf]
def q8n:IC:=zr [zv 25 (zd 1 3),zv 26 (zg 1 25),zv 27 (zq (.t 26) (.c (.str [45,62]))),zm 24 27]
def q2c:IC:=zr [zv 28 (zd 1 4),zv 29 (zg 1 28),zv 30 (.len false (.t 29)),zv 31 (zq (.t 30) (zc 2)),zm 32 31,zw 32 true 33 (zd 1 4),zw 32 true 34 (zg 1 33),zj 32 true 35 (zk 23 [((.t 34),(.sl 5)),((.c (.fn 47 [] [])),.id)]),zv 36 (.pick (.t 32) (.t 35) (.c (.bool false))),zm 2 36]
def q52:IC:=zr [zv 37 (zd 1 3),zv 38 (zg 1 37),zi 39 (zk 21 [zI 38]),zm 40 39,zw 40 true 41 (zd 1 4),zw 40 true 42 (zg 1 41),zj 40 true 43 (zk 23 [((.t 42),(.sl 5)),((.c (.fn 47 [] [])),.id)]),zv 44 (.pick (.t 40) (.t 43) (.c (.bool false))),zm 2 44]
def k0bn:IC:=(.seq q46 (.seq (.block 0 (.seq q2b (.cond (.t 3) (.seq q33 .ret) (.seq q7q (.cond (.t 15) (.seq q4v .ret) (.seq q8n (.cond (.t 24) (.seq q2c .ret) .skip))))))) (.seq q52 .ret)))
@[go_sem] def s0bn:List (RV×Co):=[(.t 2,.id)]
theorem c0bn:cFun Try.prog 47 = some (45,k0bn,s0bn):=by kernel_rfl

def q9j:IC:=zr [zi 1 (.box (.t 0)),zv 2 zf]
def q29:IC:=zr [zv 6 (zd 1 0),zv 7 (zg 1 6)]
def q74:IC:=zr [zv 9 (zq (.t 7) (zc 31)),zm 8 9]
def q3n:IC:=zr [zv 10 (zl 5 1),zi 11 (zk 25 [zA 10]),zm 2 11]
def q71:IC:=zr [zv 13 (zq (.t 7) (zc 32)),zm 12 13]
def q83:IC:=zr [zv 14 (zl 5 1),zi 15 (zk 26 [zA 14]),zm 2 15]
def q6i:IC:=zr [zv 16 (zd 1 3),zv 17 (zg 1 16),zi 18 (zk 21 [zI 17]),zv 19 (.un .not (.t 18)),zm 20 19,zw 20 false 21 (zd 1 2),zw 20 false 22 (zg 1 21),zw 20 false 23 (.bin .lss .no (.t 22) (zc 0)),zv 24 (.pick (.t 20) (.c (.bool true)) (.t 23)),zm 25 24,zw 25 false 26 (zd 1 2),zw 25 false 27 (zg 1 26),zw 25 false 28 (zd 1 4),zw 25 false 29 (zg 1 28),zw 25 false 30 (.len false (.t 29)),zw 25 false 31 (.bin .geq .no (.t 27) (.t 30)),zv 32 (.pick (.t 25) (.c (.bool true)) (.t 31))]
def q76:IC:=zr [zv 2 zf]
def q16:IC:=.drw [zp (zv 33 (zd 1 4)),zp (zv 34 (zg 1 33)),zp (zv 35 (zd 1 2)),zp (zv 36 (zg 1 35)),zp (zv 37 (.slv 5 (.t 34) none (some (.t 36)) none)),zp (zv 38 (zd 1 4)),zp (zv 39 (zg 1 38)),zp (zv 40 (zd 1 2)),zp (zv 41 (zg 1 40)),zp (zv 42 (.iad 5 (.t 39) (.t 41))),zp (zv 43 (zl 5 42)),zp (zv 44 (zd 1 4)),zp (zv 45 (zg 1 44)),zp (zv 46 (zd 1 2)),zp (zv 47 (zg 1 46)),zp (zv 48 (.bin .add .no (.t 47) (zc 1))),zp (zv 49 (.slv 5 (.t 45) (some (.t 48)) none none)),(zi 4 zaN,[1,3,4,6,8,10,12,14,16]),zp (zm 3 37),(zn (.st 5 zN (.t 4) (.t 43)),[12,14,16]),zp (zm 5 49)]
def q6q:IC:=zr [zv 50 (zd 1 0),zv 51 (zg 1 50)]
def qxx:IC:=zr [zv 53 (zq (.t 51) (zc 33)),zm 52 53]
def qw2:IC:=zr [zm 54 3,zi 55 (zk 23 [((.t 54),(.sl 5)),((.c (.fn 62 [] [])),.id)]),zm 56 55,zw 56 true 57 (zl 5 4),zj 56 true 58 (zk 63 [zA 57]),zv 59 (.pick (.t 56) (.t 58) (.c (.bool false))),zm 60 59,zw 60 true 61 (zo 5),zj 60 true 62 (zk 23 [((.t 61),(.sl 5)),((.c (.fn 63 [] [])),.id)]),zv 63 (.pick (.t 60) (.t 62) (.c (.bool false))),zm 2 63]
def qzn:IC:=zr [zv 65 (zq (.t 51) (zc 35)),zm 64 65]
def qxn:IC:=zr [zm 66 3,zi 67 (zk 23 [((.t 66),(.sl 5)),((.c (.fn 51 [] [])),.id)]),zm 68 67,zw 68 true 69 (zl 5 4),zj 68 true 70 (zk 62 [zA 69]),zv 71 (.pick (.t 68) (.t 70) (.c (.bool false))),zm 72 71,zw 72 true 73 (zo 5),zj 72 true 74 (zk 23 [((.t 73),(.sl 5)),((.c (.fn 26 [] [])),.id)]),zv 75 (.pick (.t 72) (.t 74) (.c (.bool false))),zm 2 75]
def q0b:IC:=zr [zv 77 (zq (.t 51) (zc 36)),zm 76 77]
def qxa:IC:=zr [zm 78 3,zi 79 (zk 23 [((.t 78),(.sl 5)),((.c (.fn 51 [] [])),.id)]),zm 80 79,zw 80 true 81 (zl 5 4),zj 80 true 82 (zk 47 [zA 81]),zv 83 (.pick (.t 80) (.t 82) (.c (.bool false))),zm 84 83,zw 84 true 85 (zo 5),zj 84 true 86 (zk 23 [((.t 85),(.sl 5)),((.c (.fn 25 [] [])),.id)]),zv 87 (.pick (.t 84) (.t 86) (.c (.bool false))),zm 2 87]
def qy0:IC:=zr [zv 2 zf]
def k0be:IC:=(.seq q9j (.seq (.seq q29 (.block 0 (.seq q74 (.cond (.t 8) (.seq q3n .ret) (.seq q71 (.cond (.t 12) (.seq q83 .ret) .skip)))))) (.seq (.seq q6i (.cond (.t 32) (.seq q76 .ret) .skip)) (.seq q16 (.seq (.seq q6q (.block 1 (.seq qxx (.cond (.t 52) (.seq qw2 .ret) (.seq qzn (.cond (.t 64) (.seq qxn .ret) (.seq q0b (.cond (.t 76) (.seq qxa .ret) .skip)))))))) (.seq qy0 .ret))))))
@[go_sem] def s0be:List (RV×Co):=[(.t 2,.id)]
theorem c0be:cFun Try.prog 48 = some (88,k0be,s0be):=by kernel_rfl

def qbdu:IC:=zr [zv 2 (.mov (.c (.str [])))]
def qbe0:IC:=zr [zm 4 0,zi 5 (zk 31 [((.t 4),(.sl 5)),((.c (.str [44,32])),.id),((.c (.fn 67 [] [])),.id)]),zm 3 5]
def qbdm:IC:=zr [zm 6 0,zv 7 (.len false (.t 6))]
def qbe2:IC:=zr [zv 9 (zq (.t 7) (zc 0)),zm 8 9]
def qbcq:IC:=zr [zv 2 (.mov (.c (.str [])))]
def qba3:IC:=zr [zv 11 (zq (.t 7) (zc 1)),zm 10 11]
def q96:IC:=zr [zm 12 3,zv 13 (.bin .add .no (.t 12) (.c (.str [32,61,62,32]))),zm 2 13]
def qbdr:IC:=zr [zm 14 3,zv 15 (.bin .add .no (.c (.str [40])) (.t 14)),zv 16 (.bin .add .no (.t 15) (.c (.str [41,32,61,62,32]))),zm 2 16]
def k0y:IC:=(.seq qbdu (.seq qbe0 (.seq (.seq qbdm (.block 0 (.seq qbe2 (.cond (.t 8) (.seq qbcq .ret) (.seq qba3 (.cond (.t 10) (.seq q96 .ret) .skip)))))) (.seq qbdr .ret))))
@[go_sem] def s0y:List (RV×Co):=[(.t 2,.id)]
theorem c0y:cFun Try.prog 50 = some (17,k0y,s0y):=by kernel_rfl

def q7u:IC:=zr [zi 1 (.box (.t 0)),zv 2 zf]
def q77:IC:=zr [zv 3 (zd 1 0),zv 4 (zg 1 3),zv 5 (zq (.t 4) (zc 3)),zm 6 5,zw 6 true 7 (zl 5 1),zj 6 true 8 (zk 19 [zA 7,((.c (.fn 21 [] [])),.id)]),zv 9 (.pick (.t 6) (.t 8) (.c (.bool false))),zm 10 9,zw 10 true 11 (zd 1 4),zw 10 true 12 (zg 1 11),zw 10 true 13 (.len false (.t 12)),zw 10 true 14 (zq (.t 13) (zc 1)),zv 15 (.pick (.t 10) (.t 14) (.c (.bool false))),zm 16 15,zw 16 true 17 (zd 1 4),zw 16 true 18 (zg 1 17),zw 16 true 19 (.iad 5 (.t 18) (zc 0)),zw 16 true 20 (zl 5 19),zj 16 true 21 (zk 47 [zA 20]),zv 22 (.pick (.t 16) (.t 21) (.c (.bool false))),zm 2 22]
def k0bp:IC:=(.seq q7u (.seq q77 .ret))
@[go_sem] def s0bp:List (RV×Co):=[(.t 2,.id)]
theorem c0bp:cFun Try.prog 51 = some (23,k0bp,s0bp):=by kernel_rfl

def qbbj:IC:=zr [zv 4 (.mov (.c (.str [])))]
def qbej:IC:=zr [zm 5 1]
def qbd1:IC:=zr [zm 6 0,zi 7 (zk 28 [zI 6]),zm 4 7]
def qbfn:IC:=zr [zm 8 0,zi 9 (zk 28 [zI 8]),zv 10 (.bin .add .no (.c (.str [40])) (.t 9)),zv 11 (.bin .add .no (.t 10) (.c (.str [41]))),zm 4 11]
def k0t:IC:=(.seq qbbj (.seq (.seq qbej (.cond (.t 5) (.seq qbd1 .ret) .skip)) (.seq qbfn .ret)))
@[go_sem] def s0t:List (RV×Co):=[(.t 4,.id)]
theorem c0t:cFun Try.prog 52 = some (12,k0t,s0t):=by kernel_rfl

def q9u:IC:=zr [zi 1 (.box (.t 0)),zv 2 (.mov (.c (.str [])))]
def qbbd:IC:=.drw [zp (zv 3 (zl 5 1)),(zv 4 (.bld [(.int .i64 0),(.int .i64 0),(.int .i64 0),(.str []),.nils] [(0,5,(.t 3))]),[]),(zv 5 (.mki 41 (.t 4) zN),[]),zp (zv 6 (zl 5 1)),(zi 7 (zk 56 [zA 6]),[0,2]),(zi 8 (zk 52 [zI 5,zI 7]),[]),(zv 9 (.bin .add .no (.c (.str [32])) (.t 8)),[]),zp (zm 2 9)]
def k0v:IC:=(.seq q9u (.seq qbbd .ret))
@[go_sem] def s0v:List (RV×Co):=[(.t 2,.id)]
theorem c0v:cFun Try.prog 53 = some (10,k0v,s0v):=by kernel_rfl

def q2y:IC:=zr [zv 2 (.mov (.c (.str [])))]
def q5b:IC:=zr [zm 6 0,zv 7 (.cvi .u64 (.t 6)),zm 3 7]
def q18:IC:=zr [zm 8 0,zv 9 (.bin .lss .no (.t 8) (zc 0))]
def q2a:IC:=zr [zm 10 3,zv 11 (.un .neg (.t 10)),zm 3 11]
def q9r:IC:=zr [zi 4 (.alo [(.int .u8 0),(.int .u8 0),(.int .u8 0),(.int .u8 0),(.int .u8 0),(.int .u8 0),(.int .u8 0),(.int .u8 0),(.int .u8 0),(.int .u8 0),(.int .u8 0),(.int .u8 0),(.int .u8 0),(.int .u8 0),(.int .u8 0),(.int .u8 0),(.int .u8 0),(.int .u8 0),(.int .u8 0),(.int .u8 0)])]
def q9a:IC:=zr [zv 5 (.mov (zc 20))]
def q32:IC:=zr [zm 12 5,zv 13 (.bin .sub .no (.t 12) (zc 1)),zm 5 13]
def q7o:IC:=zr [zm 14 5,zm 15 3,zv 16 (.bin .rem .no (.t 15) (.c (.int .u64 10))),zv 17 (.bin .add .no (.c (.int .u64 48)) (.t 16)),zv 18 (.cvi .u8 (.t 17)),zv 19 (.aad 1 20 (.t 4) (.t 14)),zn (.st 1 .id (.t 19) (.t 18))]
def q30:IC:=zr [zm 20 3,zv 21 (.bin .quo .no (.t 20) (.c (.int .u64 10))),zm 3 21]
def qyz:IC:=zr [zm 22 3,zv 23 (zq (.t 22) (.c (.int .u64 0)))]
def q7k:IC:=(.block 1 (.seq q32 (.seq q7o (.seq q30 (.seq qyz (.cond (.t 23) (.exit 0) .skip))))))
def qwz:IC:=zr [zm 24 0,zv 25 (.bin .lss .no (.t 24) (zc 0))]
def qyt:IC:=zr [zm 26 5,zv 27 (.sla 20 (.t 4) (.t 26)),zv 28 (.cbs (.t 27)),zv 29 (.bin .add .no (.c (.str [45])) (.t 28)),zm 2 29]
def qxt:IC:=zr [zm 30 5,zv 31 (.sla 20 (.t 4) (.t 30)),zv 32 (.cbs (.t 31)),zm 2 32]
def k0ci:IC:=(.seq q2y (.seq q5b (.seq (.seq q18 (.cond (.t 9) q2a .skip)) (.seq q9r (.seq q9a (.seq (.block 0 (.loop q7k)) (.seq (.seq qwz (.cond (.t 25) (.seq qyt .ret) .skip)) (.seq qxt .ret))))))))
@[go_sem] def s0ci:List (RV×Co):=[(.t 2,.id)]
theorem c0ci:cFun Try.prog 54 = some (33,k0ci,s0ci):=by kernel_rfl

def q6n:IC:=zr [zi 1 (.box (.t 0)),zv 2 (.mov (.c (.str [])))]
def q3u:IC:=.drw [zp (zv 3 (zl 5 1)),(zv 4 (.bld [(.int .i64 0),(.int .i64 0),(.int .i64 0),(.str []),.nils] [(0,5,(.t 3))]),[]),(zv 5 (.mki 44 (.t 4) zN),[]),zp (zv 6 (zl 5 1)),(zi 7 (zk 56 [zA 6]),[0,2]),(zi 8 (zk 52 [zI 5,zI 7]),[]),(zv 9 (.bin .add .no (.c (.str [32])) (.t 8)),[]),zp (zm 2 9)]
def k0ba:IC:=(.seq q6n (.seq q3u .ret))
@[go_sem] def s0ba:List (RV×Co):=[(.t 2,.id)]
theorem c0ba:cFun Try.prog 55 = some (10,k0ba,s0ba):=by kernel_rfl

def qbcm:IC:=zr [zi 1 (.box (.t 0)),zv 2 zf]
def qbf5:IC:=zr [zv 3 (zd 1 4),zv 4 (zg 1 3),zv 5 (.len false (.t 4)),zv 6 (zq (.t 5) (zc 0)),zm 2 6]
def k0s:IC:=(.seq qbcm (.seq qbf5 .ret))
@[go_sem] def s0s:List (RV×Co):=[(.t 2,.id)]
theorem c0s:cFun Try.prog 56 = some (7,k0s,s0s):=by kernel_rfl

def qbai:IC:=zr [zv 3 (.mov (.c (.str [])))]
def qbbx:IC:=zr [zv 4 (zd 1 4),zv 5 (zg 1 4),zm 6 0,zv 7 (.iad 5 (.t 5) (.t 6)),zv 8 (zl 5 7),zv 9 (.bld [(.int .i64 0),(.int .i64 0),(.int .i64 0),(.str []),.nils] [(0,5,(.t 8))]),zv 10 (.mki 33 (.t 9) zN),zi 11 (zk 28 [zI 10]),zm 3 11]
def k0n:IC:=(.seq qbai (.seq qbbx .ret))
@[go_sem] def s0n:List (RV×Co):=[(.t 3,.id)]
theorem c0n:cFun Try.prog 57 = some (12,k0n,s0n):=by kernel_rfl

def qbal:IC:=zr [zv 2 (.mov (.c (.str [])))]
def qbcx:IC:=zr [zm 3 0,zi 4 (zk 31 [((.t 3),(.sl 5)),((.c (.str [59,32])),.id),((.c (.fn 68 [] [])),.id)]),zi 5 (zk 59 [zI 4]),zm 2 5]
def k0p:IC:=(.seq qbal (.seq qbcx .ret))
@[go_sem] def s0p:List (RV×Co):=[(.t 2,.id)]
theorem c0p:cFun Try.prog 58 = some (6,k0p,s0p):=by kernel_rfl

def qbeu:IC:=zr [zv 2 (.mov (.c (.str [])))]
def qbei:IC:=zr [zm 3 0,zv 4 (zq (.t 3) (.c (.str [])))]
def qbfj:IC:=zr [zv 2 (.mov (.c (.str [123,32,125])))]
def qbe8:IC:=zr [zm 5 0,zv 6 (.bin .add .no (.c (.str [123,32])) (.t 5)),zv 7 (.bin .add .no (.t 6) (.c (.str [32,125]))),zm 2 7]
def k0o:IC:=(.seq qbeu (.seq (.seq qbei (.cond (.t 4) (.seq qbfj .ret) .skip)) (.seq qbe8 .ret)))
@[go_sem] def s0o:List (RV×Co):=[(.t 2,.id)]
theorem c0o:cFun Try.prog 59 = some (8,k0o,s0o):=by kernel_rfl

def qbet:IC:=zr [zi 1 (.box (.t 0)),zv 2 (.mov (.c (.str [])))]
def qbdh:IC:=.drw [zp (zv 3 (zd 1 4)),zp (zv 4 (zg 1 3)),zp (zv 5 (.iad 5 (.t 4) (zc 0))),zp (zv 6 (zl 5 5)),(zv 7 (.bld [(.int .i64 0),(.int .i64 0),(.int .i64 0),(.str []),.nils] [(0,5,(.t 6))]),[]),(zv 8 (.mki 44 (.t 7) zN),[]),(zi 9 (zk 28 [zI 8]),[]),(zv 10 (.bin .add .no (.t 9) (.c (.str [32,45,62,32]))),[]),zp (zv 11 (zd 1 4)),(zv 12 (zg 1 11),[6]),zp (zv 13 (.iad 5 (.t 12) (zc 1))),(zv 14 (zl 5 13),[6]),(zv 15 (.bld [(.int .i64 0),(.int .i64 0),(.int .i64 0),(.str []),.nils] [(0,5,(.t 14))]),[]),(zv 16 (.mki 33 (.t 15) zN),[6]),(zi 17 (zk 28 [zI 16]),[]),zp (zv 18 (.bin .add .no (.t 10) (.t 17))),zp (zm 2 18)]
def k0r:IC:=(.seq qbet (.seq qbdh .ret))
@[go_sem] def s0r:List (RV×Co):=[(.t 2,.id)]
theorem c0r:cFun Try.prog 60 = some (19,k0r,s0r):=by kernel_rfl

def qbck:IC:=zr [zi 1 (.box (.t 0)),zv 2 (.mov (.c (.str [])))]
def qbf8:IC:=zr [zv 3 (zl 5 1),zv 4 (.bld [(.int .i64 0),(.int .i64 0),(.int .i64 0),(.str []),.nils] [(0,5,(.t 3))]),zv 5 (.mki 41 (.t 4) zN),zi 6 (zk 28 [zI 5]),zm 2 6]
def k0k:IC:=(.seq qbck (.seq qbf8 .ret))
@[go_sem] def s0k:List (RV×Co):=[(.t 2,.id)]
theorem c0k:cFun Try.prog 61 = some (7,k0k,s0k):=by kernel_rfl

def q5w:IC:=zr [zi 1 (.box (.t 0)),zv 2 zf]
def q70:IC:=zr [zv 3 (zd 1 0),zv 4 (zg 1 3),zv 5 (zq (.t 4) (zc 1)),zm 6 5,zw 6 true 7 (zl 5 1),zj 6 true 8 (zk 47 [zA 7]),zv 9 (.pick (.t 6) (.t 8) (.c (.bool false))),zm 2 9]
def k0bc:IC:=(.seq q5w (.seq q70 .ret))
@[go_sem] def s0bc:List (RV×Co):=[(.t 2,.id)]
theorem c0bc:cFun Try.prog 62 = some (10,k0bc,s0bc):=by kernel_rfl

def q8b:IC:=zr [zi 1 (.box (.t 0)),zv 2 zf]
def q1y:IC:=zr [zv 3 (zd 1 0),zv 4 (zg 1 3),zv 5 (zq (.t 4) (zc 34)),zm 6 5,zw 6 true 7 (zl 5 1),zj 6 true 8 (zk 19 [zA 7,((.c (.fn 21 [] [])),.id)]),zv 9 (.pick (.t 6) (.t 8) (.c (.bool false))),zm 10 9,zw 10 true 11 (zd 1 4),zw 10 true 12 (zg 1 11),zj 10 true 13 (zk 23 [((.t 12),(.sl 5)),((.c (.fn 47 [] [])),.id)]),zv 14 (.pick (.t 10) (.t 13) (.c (.bool false))),zm 2 14]
def k0bd:IC:=(.seq q8b (.seq q1y .ret))
@[go_sem] def s0bd:List (RV×Co):=[(.t 2,.id)]
theorem c0bd:cFun Try.prog 63 = some (15,k0bd,s0bd):=by kernel_rfl

def qbek:IC:=zr [zi 1 (.box (.t 0)),zv 2 (.mov (.c (.str [])))]
def qbgb:IC:=.drw [zp (zv 3 (zd 1 3)),zp (zv 4 (zg 1 3)),zp (zv 5 (zd 1 4)),zp (zv 6 (zg 1 5)),zp (zv 7 (.iad 5 (.t 6) (zc 0))),zp (zv 8 (zl 5 7)),(zi 9 (zk 53 [zA 8]),[1]),zp (zv 10 (.bin .add .no (.t 4) (.t 9))),zp (zm 2 10)]
def k0x:IC:=(.seq qbek (.seq qbgb .ret))
@[go_sem] def s0x:List (RV×Co):=[(.t 2,.id)]
theorem c0x:cFun Try.prog 67 = some (11,k0x,s0x):=by kernel_rfl

def qbb5:IC:=zr [zi 1 (.box (.t 0)),zv 2 (.mov (.c (.str [])))]
def q94:IC:=zr [zv 3 (zl 5 1),zv 4 (.bld [(.int .i64 0),(.int .i64 0),(.int .i64 0),(.str []),.nils] [(0,5,(.t 3))]),zv 5 (.mki 43 (.t 4) zN),zi 6 (zk 28 [zI 5]),zm 2 6]
def k0q:IC:=(.seq qbb5 (.seq q94 .ret))
@[go_sem] def s0q:List (RV×Co):=[(.t 2,.id)]
theorem c0q:cFun Try.prog 68 = some (7,k0q,s0q):=by kernel_rfl

end Go.Proofs.Ytlmcofjcpadmiaa
