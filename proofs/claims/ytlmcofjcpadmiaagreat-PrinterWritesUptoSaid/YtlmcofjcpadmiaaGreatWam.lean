/- A text of this proof. -/
import Derived.Test.YtlmcofjcpadmiaaGreatWah
import Derived.Test.YtlmcofjcpadmiaaGreatProg
set_option linter.unusedVariables false
set_option linter.unusedSimpArgs false
/- The compiled code of the functions. -/
namespace Go.Proofs.YtlmcofjcpadmiaaGreat
open Go Go.V
@[reducible] def zm (d s:Nat):GI:=⟨none,some d,.v (.mov (.t s))⟩
@[reducible] def zv (d:Nat) (x:IV):GI:=⟨none,some d,.v x⟩
@[reducible] def zi (d:Nat) (i:I):GI:=⟨none,some d,i⟩
@[reducible] def zn (i:I):GI:=⟨none,none,i⟩
@[reducible] def zw (j:Nat) (b:Bool) (d:Nat) (x:IV):GI:=⟨some (j,b),some d,.v x⟩
@[reducible] def zp (g:GI):GI×List Nat:=(g,[])
@[reducible] def zN:Co:=.agg [.id,.id,.id,.id,(.sl 5)]
@[reducible] def zC:Co:=.agg [(.sl 4),.id,.id,.id,.id,.id,.id,.id]
@[reducible] def zaN:I:=.alo [(.int .i64 0),(.int .i64 0),(.int .i64 0),(.str []),.nils]
@[reducible] def zaC:I:=.alo [.nils,(.int .i64 0),(.int .i64 0),(.int .i64 0),(.str []),(.int .i64 0),(.int .i64 0),(.int .i64 0)]
@[reducible] def zaT:I:=.alo [(.int .i64 0),(.int .i64 0),(.int .i64 0),(.str [])]
@[reducible] def zZ:AV:=.agg [(.int .i64 0),(.int .i64 0),(.int .i64 0),(.str []),.nils]
@[reducible] def zc (n:Int):Opd:=.c (.int .i64 n)
@[reducible] def zf:IV:=.mov (.c (.bool false))
@[reducible] def zr (l:List GI):IC:=.reg false l
@[reducible] def zk (f:FuncId) (l:List (Opd×Co)):I:=.call (.c (.fn f [] [])) l
@[reducible] def zA (n:Nat):Opd×Co:=(.t n,zN)
@[reducible] def zI (n:Nat):Opd×Co:=(.t n,.id)
@[reducible] def zx (n k:Nat):IV:=.ext (.t n) k
@[reducible] def zl (n k:Nat):IV:=.ld true n (.t k)
@[reducible] def zg (n k:Nat):IV:=.ld false n (.t k)
@[reducible] def zd (n k:Nat):IV:=.fad (.t n) k
@[reducible] def zq (a b:Opd):IV:=.bin .eql .no a b
@[reducible] def zo (n:Nat):IV:=.mov (.t n)
@[reducible] def zj (j:Nat) (b:Bool) (d:Nat) (i:I):GI:=⟨some (j,b),some d,i⟩
def q40:IC:=zr [zi 1 (.box (.t 0)),zv 2 zf]
def q6x:IC:=zr [zv 3 (zl 5 1),zi 4 (zk 7 [zA 3]),zv 5 (zq (.t 4) (zc 0))]
def q20:IC:=zr [zi 6 (zk 8 []),zm 2 6]
def q1d:IC:=.drw [zp (zv 7 (zl 5 1)),(zi 8 (zk 9 [zA 7]),[]),(zv 9 (zl 5 1),[1]),(zi 10 (zk 10 [zA 9]),[]),zp (zv 11 (zq (.t 8) (.t 10))),zp (zm 12 11),zp (zw 12 true 13 (zl 5 1)),(zj 12 true 14 (zk 11 [zA 13]),[]),(zw 12 true 15 (zl 5 1),[7]),(zj 12 true 16 (zk 12 [zA 15]),[]),zp (zw 12 true 17 (zq (.t 14) (.t 16))),zp (zv 18 (.pick (.t 12) (.t 17) (.c (.bool false)))),zp (zm 19 18),zp (zw 19 true 20 (zl 5 1)),(zj 19 true 21 (zk 13 [zA 20]),[]),(zw 19 true 22 (zl 5 1),[14]),(zj 19 true 23 (zk 14 [zA 22]),[]),zp (zw 19 true 24 (zq (.t 21) (.t 23))),zp (zv 25 (.pick (.t 19) (.t 24) (.c (.bool false)))),zp (zm 26 25),zp (zw 26 true 27 (zl 5 1)),(zj 26 true 28 (zk 15 [zA 27]),[]),(zw 26 true 29 (zl 5 1),[21]),(zj 26 true 30 (zk 16 [zA 29]),[]),zp (zw 26 true 31 (zq (.t 28) (.t 30))),zp (zv 32 (.pick (.t 26) (.t 31) (.c (.bool false)))),zp (zm 33 32),zp (zw 33 true 34 (zl 5 1)),(zj 33 true 35 (zk 17 [zA 34]),[]),(zw 33 true 36 (zl 5 1),[28]),(zj 33 true 37 (zk 18 [zA 36]),[]),zp (zw 33 true 38 (zq (.t 35) (.t 37))),zp (zv 39 (.pick (.t 33) (.t 38) (.c (.bool false)))),zp (zm 40 39),zp (zw 40 true 41 (zl 5 1)),(zj 40 true 42 (zk 19 [zA 41]),[]),(zw 40 true 43 (zl 5 1),[35]),(zj 40 true 44 (zk 20 [zA 43]),[]),zp (zw 40 true 45 (zq (.t 42) (.t 44))),zp (zv 46 (.pick (.t 40) (.t 45) (.c (.bool false)))),zp (zm 47 46),(zj 47 true 48 (zk 8 []),[]),zp (zv 49 (.pick (.t 47) (.t 48) (.c (.bool false)))),zp (zm 2 49)]
def k0do:IC:=(.seq q40 (.seq (.seq q6x (.cond (.t 5) (.seq q20 .ret) .skip)) (.seq q1d .ret)))
@[go_sem] def s0do:List (RV×Co):=[(.t 2,.id)]
theorem c0do:cFun Tryz.prog 3 = some (50,k0do,s0do):=by kernel_rfl

def qbes:IC:=zr [zi 1 (.box (.t 0)),zv 2 (.mov (zc 0))]
def q9h:IC:=zr [zv 3 (zl 5 1),zi 4 (zk 32 [zA 3,((zc 3000),.id)]),zv 5 (.bin .lss .no (.t 4) (zc 0))]
def q56:IC:=zr [zv 2 (.mov (zc 0))]
def qbdr:IC:=zr [zv 2 (.mov (zc 1))]
def k0cp:IC:=(.seq qbes (.seq (.seq q9h (.cond (.t 5) (.seq q56 .ret) .skip)) (.seq qbdr .ret)))
@[go_sem] def s0cp:List (RV×Co):=[(.t 2,.id)]
theorem c0cp:cFun Tryz.prog 7 = some (6,k0cp,s0cp):=by kernel_rfl

def qbg0:IC:=zr [zv 0 zf]
def qbj5:IC:=zr [zv 5 (.bld [(.int .i64 0),(.int .i64 0),(.int .i64 0),(.str []),.nils] [(0,1,(zc 21)),(3,1,(.c (.str [120])))]),zi 1 zaN,zn (.st 5 zN (.t 1) (.t 5))]
def qbh8:IC:=zr [zv 6 (.bld [(.int .i64 0),(.int .i64 0),(.int .i64 0),(.str []),.nils] [(0,1,(zc 21)),(3,1,(.c (.str [102])))]),zv 7 (zl 5 1),zv 8 (.bsl 5 [zA 6,zA 7]),zv 9 (.bld [(.int .i64 0),(.int .i64 0),(.int .i64 0),(.str []),.nils] [(0,1,(zc 24)),(4,1,(.t 8))]),zv 10 (.bsl 5 [zA 9]),zv 11 (.bld [(.int .i64 0),(.int .i64 0),(.int .i64 0),(.str []),.nils] [(0,1,(zc 25)),(3,1,(.c (.str [120]))),(4,1,(.t 10))]),zi 2 zaN,zn (.st 5 zN (.t 2) (.t 11))]
def qbjr:IC:=zr [zv 12 (.bld [(.int .i64 0),(.int .i64 0),(.int .i64 0),(.str []),.nils] [(0,1,(zc 1)),(3,1,(.c (.str [97])))]),zi 3 zaN,zn (.st 5 zN (.t 3) (.t 12))]
def qbkd:IC:=zr [zv 13 (zl 5 3),zv 14 (zl 5 3),zv 15 (.bsl 5 [zA 13,zA 14]),zv 16 (.bld [(.int .i64 0),(.int .i64 0),(.int .i64 0),(.str []),.nils] [(0,1,(zc 2)),(3,1,(.c (.str [45,62]))),(4,1,(.t 15))]),zv 17 (zl 5 3),zv 18 (.bsl 5 [zA 16,zA 17]),zv 19 (.bld [(.int .i64 0),(.int .i64 0),(.int .i64 0),(.str []),.nils] [(0,1,(zc 2)),(3,1,(.c (.str [45,62]))),(4,1,(.t 18))]),zi 4 zaN,zn (.st 5 zN (.t 4) (.t 19))]
def qbie:IC:=zr [zv 20 (zl 5 2),zi 21 (zk 15 [zA 20]),zv 22 (zq (.t 21) (.c (.str [92,32,120,32,45,62,32,102,32,120]))),zm 23 22,zw 23 true 24 (zl 5 4),zj 23 true 25 (zk 9 [zA 24]),zw 23 true 26 (zq (.t 25) (.c (.str [40,97,32,45,62,32,97,41,32,45,62,32,97]))),zv 27 (.pick (.t 23) (.t 26) (.c (.bool false))),zm 28 27,zw 28 true 29 (zl 5 4),zj 28 true 30 (zk 15 [zA 29]),zw 28 true 31 (zq (.t 30) (.c (.str []))),zv 32 (.pick (.t 28) (.t 31) (.c (.bool false))),zm 33 32,zw 33 true 34 (.bld [(.int .i64 0),(.int .i64 0),(.int .i64 0),(.str []),.nils] [(0,1,(zc 37))]),zj 33 true 35 (zk 19 [zA 34]),zw 33 true 36 (zq (.t 35) (.c (.str []))),zv 37 (.pick (.t 33) (.t 36) (.c (.bool false))),zm 38 37,zw 38 true 39 (zl 5 2),zw 38 true 40 (.bsl 5 [zA 39]),zw 38 true 41 (.bld [(.int .i64 0),(.int .i64 0),(.int .i64 0),(.str []),.nils] [(0,1,(zc 31)),(3,1,(.c (.str [120]))),(4,1,(.t 40))]),zj 38 true 42 (zk 17 [zA 41]),zw 38 true 43 (zq (.t 42) (.c (.str [120,32,61,32,92,32,120,32,45,62,32,102,32,120]))),zv 44 (.pick (.t 38) (.t 43) (.c (.bool false))),zm 45 44,zw 45 true 46 (.bld [(.int .i64 0),(.int .i64 0),(.int .i64 0),(.str []),.nils] [(0,1,(zc 12))]),zj 45 true 47 (zk 13 [zA 46]),zw 45 true 48 (zq (.t 47) (.c (.str [95]))),zv 49 (.pick (.t 45) (.t 48) (.c (.bool false))),zm 50 49,zw 50 true 51 (zl 5 3),zw 50 true 52 (.bsl 5 [zA 51]),zw 50 true 53 (.bld [(.int .i64 0),(.int .i64 0),(.int .i64 0),(.str []),.nils] [(0,1,(zc 4)),(4,1,(.t 52))]),zj 50 true 54 (zk 11 [zA 53]),zw 50 true 55 (zq (.t 54) (.c (.str [97]))),zv 56 (.pick (.t 50) (.t 55) (.c (.bool false))),zm 0 56]
def k0a:IC:=(.seq qbg0 (.seq qbj5 (.seq qbh8 (.seq qbjr (.seq qbkd (.seq qbie .ret))))))
@[go_sem] def s0a:List (RV×Co):=[(.t 0,.id)]
theorem c0a:cFun Tryz.prog 8 = some (57,k0a,s0a):=by kernel_rfl

def qbf8:IC:=zr [zi 1 (.box (.t 0)),zv 2 (.mov (.c (.str [])))]
def qbf7:IC:=.drw [zp (zv 3 (zl 5 1)),(zi 4 (zk 21 [zA 3]),[]),(zv 5 (zl 5 1),[1]),(zv 6 (.bld [(.int .i64 0),(.int .i64 0),(.int .i64 0),(.str []),.nils] [(0,5,(.t 5))]),[]),(zv 7 (.mki 37 (.t 6) zN),[1]),(zi 8 (zk 33 [zI 4,zI 7]),[]),zp (zm 2 8)]
def k0c:IC:=(.seq qbf8 (.seq qbf7 .ret))
@[go_sem] def s0c:List (RV×Co):=[(.t 2,.id)]
theorem c0c:cFun Tryz.prog 9 = some (9,k0c,s0c):=by kernel_rfl

def qbcp:IC:=zr [zi 1 (.box (.t 0)),zv 2 (.mov (.c (.str [])))]
def q32:IC:=zr [zv 3 (zl 5 1),zi 4 (zk 34 [zA 3]),zv 5 (.un .not (.t 4))]
def qbe1:IC:=zr [zv 2 (.mov (.c (.str [])))]
def qbc4:IC:=zr [zv 6 (zl 5 1),zi 7 (zk 35 [zA 6]),zm 2 7]
def k0di:IC:=(.seq qbcp (.seq (.seq q32 (.cond (.t 5) (.seq qbe1 .ret) .skip)) (.seq qbc4 .ret)))
@[go_sem] def s0di:List (RV×Co):=[(.t 2,.id)]
theorem c0di:cFun Tryz.prog 10 = some (8,k0di,s0di):=by kernel_rfl

def qbic:IC:=zr [zi 1 (.box (.t 0)),zv 2 (.mov (.c (.str [])))]
def qbhr:IC:=zr [zv 3 (zl 5 1),zv 4 (.bsl 5 [zA 3]),zv 5 (.bld [(.int .i64 0),(.int .i64 0),(.int .i64 0),(.str []),.nils] [(0,1,(zc 32)),(3,1,(.c (.str [120]))),(4,1,(.t 4))]),zi 6 (zk 30 [zA 5]),zv 7 (.un .not (.t 6))]
def qbfu:IC:=zr [zv 2 (.mov (.c (.str [])))]
def qbh3:IC:=zr [zv 8 (zl 5 1),zi 9 (zk 36 [zA 8]),zm 2 9]
def k0f:IC:=(.seq qbic (.seq (.seq qbhr (.cond (.t 7) (.seq qbfu .ret) .skip)) (.seq qbh3 .ret)))
@[go_sem] def s0f:List (RV×Co):=[(.t 2,.id)]
theorem c0f:cFun Tryz.prog 11 = some (10,k0f,s0f):=by kernel_rfl

def qbav:IC:=zr [zi 1 (.box (.t 0)),zv 2 (.mov (.c (.str [])))]
def q1k:IC:=zr [zv 3 (zl 5 1),zv 4 (.bsl 5 [zA 3]),zv 5 (.bld [(.int .i64 0),(.int .i64 0),(.int .i64 0),(.str []),.nils] [(0,1,(zc 32)),(3,1,(.c (.str [120]))),(4,1,(.t 4))]),zi 6 (zk 37 [zA 5]),zv 7 (.un .not (.t 6))]
def qbeo:IC:=zr [zv 2 (.mov (.c (.str [])))]
def q8j:IC:=zr [zv 8 (zl 5 1),zi 9 (zk 38 [zA 8]),zm 2 9]
def k0dl:IC:=(.seq qbav (.seq (.seq q1k (.cond (.t 7) (.seq qbeo .ret) .skip)) (.seq q8j .ret)))
@[go_sem] def s0dl:List (RV×Co):=[(.t 2,.id)]
theorem c0dl:cFun Tryz.prog 12 = some (10,k0dl,s0dl):=by kernel_rfl

def qbju:IC:=zr [zi 1 (.box (.t 0)),zv 2 (.mov (.c (.str [])))]
def qbjj:IC:=.drw [zp (zv 3 (zl 5 1)),(zi 4 (zk 24 [zA 3]),[]),(zv 5 (zl 5 1),[1]),(zv 6 (.bld [(.int .i64 0),(.int .i64 0),(.int .i64 0),(.str []),.nils] [(0,5,(.t 5))]),[]),(zv 7 (.mki 38 (.t 6) zN),[1]),(zi 8 (zk 33 [zI 4,zI 7]),[]),zp (zm 2 8)]
def k0d:IC:=(.seq qbju (.seq qbjj .ret))
@[go_sem] def s0d:List (RV×Co):=[(.t 2,.id)]
theorem c0d:cFun Tryz.prog 13 = some (9,k0d,s0d):=by kernel_rfl

def qbce:IC:=zr [zi 1 (.box (.t 0)),zv 2 (.mov (.c (.str [])))]
def q6n:IC:=zr [zv 3 (zl 5 1),zi 4 (zk 39 [zA 3]),zv 5 (.un .not (.t 4))]
def q5s:IC:=zr [zv 2 (.mov (.c (.str [])))]
def q5w:IC:=zr [zv 6 (zl 5 1),zi 7 (zk 40 [zA 6]),zm 2 7]
def k0dj:IC:=(.seq qbce (.seq (.seq q6n (.cond (.t 5) (.seq q5s .ret) .skip)) (.seq q5w .ret)))
@[go_sem] def s0dj:List (RV×Co):=[(.t 2,.id)]
theorem c0dj:cFun Tryz.prog 14 = some (8,k0dj,s0dj):=by kernel_rfl

def qbil:IC:=zr [zi 1 (.box (.t 0)),zv 2 (.mov (.c (.str [])))]
def qbiy:IC:=.drw [zp (zv 3 (zl 5 1)),(zi 4 (zk 26 [zA 3]),[]),(zv 5 (zl 5 1),[1]),(zv 6 (.bld [(.int .i64 0),(.int .i64 0),(.int .i64 0),(.str []),.nils] [(0,5,(.t 5))]),[]),(zv 7 (.mki 39 (.t 6) zN),[1]),(zi 8 (zk 33 [zI 4,zI 7]),[]),zp (zm 2 8)]
def k0e:IC:=(.seq qbil (.seq qbiy .ret))
@[go_sem] def s0e:List (RV×Co):=[(.t 2,.id)]
theorem c0e:cFun Tryz.prog 15 = some (9,k0e,s0e):=by kernel_rfl

def qbek:IC:=zr [zi 1 (.box (.t 0)),zv 2 (.mov (.c (.str [])))]
def q61:IC:=zr [zv 3 (zl 5 1),zi 4 (zk 41 [zA 3]),zv 5 (.un .not (.t 4))]
def qbd0:IC:=zr [zv 2 (.mov (.c (.str [])))]
def qbal:IC:=zr [zv 6 (zl 5 1),zi 7 (zk 42 [zA 6]),zm 2 7]
def k0dk:IC:=(.seq qbek (.seq (.seq q61 (.cond (.t 5) (.seq qbd0 .ret) .skip)) (.seq qbal .ret)))
@[go_sem] def s0dk:List (RV×Co):=[(.t 2,.id)]
theorem c0dk:cFun Tryz.prog 16 = some (8,k0dk,s0dk):=by kernel_rfl

def qbin:IC:=zr [zi 1 (.box (.t 0)),zv 2 (.mov (.c (.str [])))]
def qbfe:IC:=.drw [zp (zv 3 (zd 1 0)),zp (zv 4 (zg 1 3)),zp (zv 5 (.bin .neq .no (.t 4) (zc 37))),zp (zm 6 5),zp (zw 6 true 7 (zl 5 1)),(zj 6 true 8 (zk 30 [zA 7]),[]),zp (zv 9 (.pick (.t 6) (.t 8) (.c (.bool false)))),(zv 10 (zl 5 1),[5]),(zv 11 (.bld [(.int .i64 0),(.int .i64 0),(.int .i64 0),(.str []),.nils] [(0,5,(.t 10))]),[]),(zv 12 (.mki 40 (.t 11) zN),[5]),(zi 13 (zk 33 [zI 9,zI 12]),[]),zp (zm 2 13)]
def k0g:IC:=(.seq qbin (.seq qbfe .ret))
@[go_sem] def s0g:List (RV×Co):=[(.t 2,.id)]
theorem c0g:cFun Tryz.prog 17 = some (14,k0g,s0g):=by kernel_rfl

def q23:IC:=zr [zi 1 (.box (.t 0)),zv 2 (.mov (.c (.str [])))]
def qbe9:IC:=zr [zv 3 (zl 5 1),zi 4 (zk 37 [zA 3]),zv 5 (.un .not (.t 4)),zm 6 5,zw 6 false 7 (zd 1 0),zw 6 false 8 (zg 1 7),zw 6 false 9 (zq (.t 8) (zc 37)),zv 10 (.pick (.t 6) (.c (.bool true)) (.t 9))]
def q47:IC:=zr [zv 2 (.mov (.c (.str [])))]
def q1f:IC:=zr [zv 11 (zl 5 1),zi 12 (zk 43 [zA 11]),zm 2 12]
def k0dm:IC:=(.seq q23 (.seq (.seq qbe9 (.cond (.t 10) (.seq q47 .ret) .skip)) (.seq q1f .ret)))
@[go_sem] def s0dm:List (RV×Co):=[(.t 2,.id)]
theorem c0dm:cFun Tryz.prog 18 = some (13,k0dm,s0dm):=by kernel_rfl

def qbfy:IC:=zr [zi 1 (.box (.t 0)),zv 2 (.mov (.c (.str [])))]
def qbfw:IC:=zr [zv 3 (zd 1 0),zv 4 (zg 1 3),zv 5 (.bin .neq .no (.t 4) (zc 37)),zm 6 5,zw 6 false 7 (zl 5 1),zj 6 false 8 (zk 30 [zA 7]),zw 6 false 9 (.un .not (.t 8)),zv 10 (.pick (.t 6) (.c (.bool true)) (.t 9))]
def qbjd:IC:=zr [zv 2 (.mov (.c (.str [])))]
def qbfr:IC:=zr [zv 11 (zd 1 4),zv 12 (zg 1 11),zi 13 (zk 44 [((.t 12),(.sl 5)),((.c (.str [])),.id),((.c (.fn 45 [] [])),.id)]),zm 2 13]
def k0h:IC:=(.seq qbfy (.seq (.seq qbfw (.cond (.t 10) (.seq qbjd .ret) .skip)) (.seq qbfr .ret)))
@[go_sem] def s0h:List (RV×Co):=[(.t 2,.id)]
theorem c0h:cFun Tryz.prog 19 = some (14,k0h,s0h):=by kernel_rfl

def q2x:IC:=zr [zi 1 (.box (.t 0)),zv 2 (.mov (.c (.str [])))]
def q8s:IC:=zr [zv 5 (zl 5 1),zi 6 (zk 37 [zA 5]),zv 7 (.un .not (.t 6)),zm 8 7,zw 8 false 9 (zd 1 0),zw 8 false 10 (zg 1 9),zw 8 false 11 (.bin .neq .no (.t 10) (zc 37)),zv 12 (.pick (.t 8) (.c (.bool true)) (.t 11))]
def q6p:IC:=zr [zv 2 (.mov (.c (.str [])))]
def q8f:IC:=zr [zv 3 (.mov (.c (.str [])))]
def q1j:IC:=zr [zv 4 (.mov (zc 0))]
def q3w:IC:=zr [zm 13 4,zv 14 (zd 1 4),zv 15 (zg 1 14),zv 16 (.len false (.t 15)),zv 17 (.bin .lss .no (.t 13) (.t 16))]
def q0n:IC:=zr [zm 20 3,zv 21 (zd 1 4),zv 22 (zg 1 21),zm 23 4,zv 24 (.iad 5 (.t 22) (.t 23)),zv 25 (zl 5 24),zi 26 (zk 43 [zA 25]),zv 27 (.bin .add .no (.t 26) (.c (.str [59,10]))),zv 28 (.bin .add .no (.t 20) (.t 27)),zm 3 28]
def q0m:IC:=zr [zm 18 4,zv 19 (.bin .add .no (.t 18) (zc 1)),zm 4 19]
def q1b:IC:=(.seq (.seq q3w (.cond (.t 17) .skip (.exit 0))) (.seq (.block 1 q0n) q0m))
def qxr:IC:=zr [zm 29 3,zm 2 29]
def k0dn:IC:=(.seq q2x (.seq (.seq q8s (.cond (.t 12) (.seq q6p .ret) .skip)) (.seq q8f (.seq (.seq q1j (.block 0 (.loop q1b))) (.seq qxr .ret)))))
@[go_sem] def s0dn:List (RV×Co):=[(.t 2,.id)]
theorem c0dn:cFun Tryz.prog 20 = some (30,k0dn,s0dn):=by kernel_rfl

def q3j:IC:=zr [zi 1 (.box (.t 0)),zv 2 zf]
def q76:IC:=zr [zv 3 (zl 5 1),zi 4 (zk 47 [zA 3]),zm 5 4,zw 5 true 6 (zl 5 1),zj 5 true 7 (zk 48 [zA 6]),zv 8 (.pick (.t 5) (.t 7) (.c (.bool false))),zm 2 8]
def k0bf:IC:=(.seq q3j (.seq q76 .ret))
@[go_sem] def s0bf:List (RV×Co):=[(.t 2,.id)]
theorem c0bf:cFun Tryz.prog 21 = some (9,k0bf,s0bf):=by kernel_rfl

def qbbc:IC:=zr [zi 1 (.box (.t 0)),zv 2 zf]
def qbc6:IC:=zr [zv 3 (zl 5 1),zi 4 (zk 47 [zA 3]),zm 5 4,zw 5 true 6 (zl 5 1),zj 5 true 7 (zk 51 [zA 6]),zv 8 (.pick (.t 5) (.t 7) (.c (.bool false))),zm 2 8]
def k0bg:IC:=(.seq qbbc (.seq qbc6 .ret))
@[go_sem] def s0bg:List (RV×Co):=[(.t 2,.id)]
theorem c0bg:cFun Tryz.prog 24 = some (9,k0bg,s0bg):=by kernel_rfl

def qbez:IC:=zr [zi 1 (.box (.t 0)),zv 2 zf]
def qbe3:IC:=zr [zv 3 (zl 5 1),zi 4 (zk 47 [zA 3]),zm 5 4,zw 5 true 6 (zl 5 1),zj 5 true 7 (zk 57 [zA 6]),zv 8 (.pick (.t 5) (.t 7) (.c (.bool false))),zm 2 8]
def k0bh:IC:=(.seq qbez (.seq qbe3 .ret))
@[go_sem] def s0bh:List (RV×Co):=[(.t 2,.id)]
theorem c0bh:cFun Tryz.prog 26 = some (9,k0bh,s0bh):=by kernel_rfl

def qbc7:IC:=zr [zi 1 (.box (.t 0)),zv 2 zf]
def q6z:IC:=zr [zv 3 (zd 1 0),zv 4 (zg 1 3),zv 5 (zq (.t 4) (zc 37))]
def q1u:IC:=zr [zv 6 (zl 5 1),zi 7 (zk 47 [zA 6]),zm 8 7,zw 8 true 9 (zl 5 1),zj 8 true 10 (zk 67 [zA 9]),zv 11 (.pick (.t 8) (.t 10) (.c (.bool false))),zm 12 11,zw 12 true 13 (zd 1 4),zw 12 true 14 (zg 1 13),zj 12 true 15 (zk 68 [((.t 14),(.sl 5)),((.c (.fn 69 [] [])),.id)]),zv 16 (.pick (.t 12) (.t 15) (.c (.bool false))),zm 2 16]
def qbb9:IC:=zr [zv 17 (zl 5 1),zi 18 (zk 47 [zA 17]),zm 19 18,zw 19 true 20 (zl 5 1),zj 19 true 21 (zk 69 [zA 20]),zv 22 (.pick (.t 19) (.t 21) (.c (.bool false))),zm 2 22]
def k0bi:IC:=(.seq qbc7 (.seq (.seq q6z (.cond (.t 5) (.seq q1u .ret) .skip)) (.seq qbb9 .ret)))
@[go_sem] def s0bi:List (RV×Co):=[(.t 2,.id)]
theorem c0bi:cFun Tryz.prog 30 = some (23,k0bi,s0bi):=by kernel_rfl

def q45:IC:=zr [zi 2 (.box (.t 0)),zv 4 (.mov (zc 0))]
def q0f:IC:=zr [zm 6 1,zv 7 (.bin .sub .no (.t 6) (zc 1)),zm 1 7]
def qbca:IC:=zr [zv 5 (.mov (zc 0))]
def q1z:IC:=zr [zm 8 5,zv 9 (zd 2 4),zv 10 (zg 1 9),zv 11 (.len false (.t 10)),zv 12 (.bin .lss .no (.t 8) (.t 11)),zm 13 12,zw 13 true 14 (zo 1),zw 13 true 15 (.bin .geq .no (.t 14) (zc 0)),zv 16 (.pick (.t 13) (.t 15) (.c (.bool false)))]
def qbdp:IC:=zr [zv 19 (zd 2 4),zv 20 (zg 1 19),zm 21 5,zv 22 (.iad 5 (.t 20) (.t 21)),zv 23 (zl 5 22),zm 24 1,zi 25 (zk 32 [zA 23,zI 24]),zm 1 25]
def q4o:IC:=zr [zm 17 5,zv 18 (.bin .add .no (.t 17) (zc 1)),zm 5 18]
def q74:IC:=(.seq (.seq q1z (.cond (.t 16) .skip (.exit 0))) (.seq (.block 1 qbdp) q4o))
def q57:IC:=zr [zm 26 1,zm 4 26]
def k0co:IC:=(.seq q45 (.seq q0f (.seq (.seq qbca (.block 0 (.loop q74))) (.seq q57 .ret))))
@[go_sem] def s0co:List (RV×Co):=[(.t 4,.id)]
theorem c0co:cFun Tryz.prog 32 = some (27,k0co,s0co):=by kernel_rfl

def qbix:IC:=zr [zv 4 (.mov (.c (.str [])))]
def qbjn:IC:=zr [zm 5 0,zv 6 (.un .not (.t 5))]
def qbkl:IC:=zr [zv 4 (.mov (.c (.str [])))]
def qbjq:IC:=zr [zm 7 1,zi 8 (zk 46 [zI 7]),zm 4 8]
def k0b:IC:=(.seq qbix (.seq (.seq qbjn (.cond (.t 6) (.seq qbkl .ret) .skip)) (.seq qbjq .ret)))
@[go_sem] def s0b:List (RV×Co):=[(.t 4,.id)]
theorem c0b:cFun Tryz.prog 33 = some (9,k0b,s0b):=by kernel_rfl

def q71:IC:=zr [zi 1 (.box (.t 0)),zv 2 zf]
def qbai:IC:=zr [zv 3 (zl 5 1),zi 4 (zk 71 [zA 3]),zm 5 4,zw 5 true 6 (zl 5 1),zj 5 true 7 (zk 72 [zA 6]),zv 8 (.pick (.t 5) (.t 7) (.c (.bool false))),zm 2 8]
def k0ea:IC:=(.seq q71 (.seq qbai .ret))
@[go_sem] def s0ea:List (RV×Co):=[(.t 2,.id)]
theorem c0ea:cFun Tryz.prog 34 = some (9,k0ea,s0ea):=by kernel_rfl

def q7n:IC:=zr [zi 1 (.box (.t 0)),zv 2 (.mov (.c (.str [])))]
def q6c:IC:=zr [zv 6 (zd 1 0),zv 7 (zg 1 6),zv 8 (zq (.t 7) (zc 1))]
def q4y:IC:=zr [zv 9 (zd 1 3),zv 10 (zg 1 9),zm 2 10]
def qbd2:IC:=zr [zv 11 (zd 1 3),zv 12 (zg 1 11),zv 13 (zq (.t 12) (.c (.str [45,62])))]
def q6i:IC:=zr [zv 14 (zd 1 4),zv 15 (zg 1 14),zv 16 (.iad 5 (.t 15) (zc 0)),zv 17 (zl 5 16),zi 18 (zk 35 [zA 17]),zm 3 18]
def q2o:IC:=zr [zv 19 (zd 1 4),zv 20 (zg 1 19),zv 21 (.iad 5 (.t 20) (zc 0)),zv 22 (zd 21 3),zv 23 (zg 1 22),zv 24 (zq (.t 23) (.c (.str [45,62])))]
def q50:IC:=zr [zm 25 3,zv 26 (.bin .add .no (.c (.str [40])) (.t 25)),zv 27 (.bin .add .no (.t 26) (.c (.str [41]))),zm 3 27]
def qba7:IC:=zr [zm 28 3,zv 29 (.bin .add .no (.t 28) (.c (.str [32,45,62,32]))),zv 30 (zd 1 4),zv 31 (zg 1 30),zv 32 (.iad 5 (.t 31) (zc 1)),zv 33 (zl 5 32),zi 34 (zk 35 [zA 33]),zv 35 (.bin .add .no (.t 29) (.t 34)),zm 2 35]
def q5p:IC:=zr [zv 36 (zd 1 3),zv 37 (zg 1 36),zm 4 37]
def q9v:IC:=zr [zv 5 (.mov (zc 0))]
def qzd:IC:=zr [zm 38 5,zv 39 (zd 1 4),zv 40 (zg 1 39),zv 41 (.len false (.t 40)),zv 42 (.bin .lss .no (.t 38) (.t 41))]
def qx2:IC:=zr [zm 45 4,zv 46 (zd 1 4),zv 47 (zg 1 46),zm 48 5,zv 49 (.iad 5 (.t 47) (.t 48)),zv 50 (zl 5 49),zi 51 (zk 73 [zA 50]),zv 52 (.bin .add .no (.c (.str [32])) (.t 51)),zv 53 (.bin .add .no (.t 45) (.t 52)),zm 4 53]
def qu0:IC:=zr [zm 43 5,zv 44 (.bin .add .no (.t 43) (zc 1)),zm 5 44]
def qtu:IC:=(.seq (.seq qzd (.cond (.t 42) .skip (.exit 0))) (.seq (.block 1 qx2) qu0))
def qu8:IC:=zr [zm 54 4,zm 2 54]
def k0dv:IC:=(.seq q7n (.seq (.seq q6c (.cond (.t 8) (.seq q4y .ret) .skip)) (.seq (.seq qbd2 (.cond (.t 13) (.seq q6i (.seq (.seq q2o (.cond (.t 24) q50 .skip)) (.seq qba7 .ret))) .skip)) (.seq q5p (.seq (.seq q9v (.block 0 (.loop qtu))) (.seq qu8 .ret))))))
@[go_sem] def s0dv:List (RV×Co):=[(.t 2,.id)]
theorem c0dv:cFun Tryz.prog 35 = some (55,k0dv,s0dv):=by kernel_rfl

def qbks:IC:=zr [zi 1 (.box (.t 0)),zv 2 (.mov (.c (.str [])))]
def qbg8:IC:=zr [zv 4 (zd 1 4),zv 5 (zg 1 4),zv 6 (.len false (.t 5)),zv 7 (.bin .sub .no (.t 6) (zc 1)),zm 3 7]
def qbh1:IC:=.drw [zp (zv 8 (zd 1 4)),zp (zv 9 (zg 1 8)),zp (zm 10 3),zp (zv 11 (.slv 5 (.t 9) none (some (.t 10)) none)),(zi 12 (zk 74 [((.t 11),(.sl 5))]),[]),zp (zv 13 (zd 1 4)),(zv 14 (zg 1 13),[4]),zp (zm 15 3),zp (zv 16 (.iad 5 (.t 14) (.t 15))),(zv 17 (zl 5 16),[4]),(zv 18 (.bld [(.int .i64 0),(.int .i64 0),(.int .i64 0),(.str []),.nils] [(0,5,(.t 17))]),[]),(zv 19 (.mki 37 (.t 18) zN),[4]),(zi 20 (zk 46 [zI 19]),[]),zp (zv 21 (.bin .add .no (.t 12) (.t 20))),zp (zm 2 21)]
def k0z:IC:=(.seq qbks (.seq qbg8 (.seq qbh1 .ret)))
@[go_sem] def s0z:List (RV×Co):=[(.t 2,.id)]
theorem c0z:cFun Tryz.prog 36 = some (22,k0z,s0z):=by kernel_rfl

def q7o:IC:=zr [zi 1 (.box (.t 0)),zv 2 zf]
def qbdf:IC:=zr [zv 4 (zd 1 0),zv 5 (zg 1 4),zv 6 (.bin .neq .no (.t 5) (zc 37))]
def q8v:IC:=zr [zv 7 (zl 5 1),zi 8 (zk 75 [zA 7]),zm 9 8,zw 9 true 10 (zl 5 1),zj 9 true 11 (zk 72 [zA 10]),zv 12 (.pick (.t 9) (.t 11) (.c (.bool false))),zm 2 12]
def q97:IC:=zr [zv 3 (.mov (zc 0))]
def q52:IC:=zr [zm 13 3,zv 14 (zd 1 4),zv 15 (zg 1 14),zv 16 (.len false (.t 15)),zv 17 (.bin .lss .no (.t 13) (.t 16))]
def qbcr:IC:=zr [zv 20 (zd 1 4),zv 21 (zg 1 20),zm 22 3,zv 23 (.iad 5 (.t 21) (.t 22)),zv 24 (zl 5 23),zi 25 (zk 75 [zA 24]),zv 26 (.un .not (.t 25))]
def q0k:IC:=zr [zv 2 zf]
def qbdc:IC:=zr [zm 18 3,zv 19 (.bin .add .no (.t 18) (zc 1)),zm 3 19]
def q1v:IC:=(.seq (.seq q52 (.cond (.t 17) .skip (.exit 0))) (.seq (.block 1 (.seq qbcr (.cond (.t 26) (.seq q0k .ret) .skip))) qbdc))
def qx8:IC:=zr [zv 27 (zd 1 3),zv 28 (zg 1 27),zv 29 (zq (.t 28) (.c (.str []))),zm 30 29,zw 30 true 31 (zd 1 2),zw 30 true 32 (zg 1 31),zw 30 true 33 (zq (.t 32) (zc 0)),zv 34 (.pick (.t 30) (.t 33) (.c (.bool false))),zm 35 34,zw 35 true 36 (zl 5 1),zj 35 true 37 (zk 72 [zA 36]),zv 38 (.pick (.t 35) (.t 37) (.c (.bool false))),zm 2 38]
def k0ed:IC:=(.seq q7o (.seq (.seq qbdf (.cond (.t 6) (.seq q8v .ret) .skip)) (.seq (.seq q97 (.block 0 (.loop q1v))) (.seq qx8 .ret))))
@[go_sem] def s0ed:List (RV×Co):=[(.t 2,.id)]
theorem c0ed:cFun Tryz.prog 37 = some (39,k0ed,s0ed):=by kernel_rfl

def q9r:IC:=zr [zi 1 (.box (.t 0)),zv 2 (.mov (.c (.str [])))]
def q9f:IC:=zr [zv 4 (zd 1 4),zv 5 (zg 1 4),zv 6 (.len false (.t 5)),zv 7 (.bin .sub .no (.t 6) (zc 1)),zm 3 7]
def q10:IC:=.drw [zp (zv 8 (zd 1 4)),zp (zv 9 (zg 1 8)),zp (zm 10 3),zp (zv 11 (.slv 5 (.t 9) none (some (.t 10)) none)),(zi 12 (zk 76 [((.t 11),(.sl 5))]),[]),zp (zv 13 (zd 1 4)),(zv 14 (zg 1 13),[4]),zp (zm 15 3),zp (zv 16 (.iad 5 (.t 14) (.t 15))),(zv 17 (zl 5 16),[4]),(zi 18 (zk 35 [zA 17]),[]),zp (zv 19 (.bin .add .no (.t 12) (.t 18))),zp (zm 2 19)]
def k0dx:IC:=(.seq q9r (.seq q9f (.seq q10 .ret)))
@[go_sem] def s0dx:List (RV×Co):=[(.t 2,.id)]
theorem c0dx:cFun Tryz.prog 38 = some (20,k0dx,s0dx):=by kernel_rfl

def q3t:IC:=zr [zi 1 (.box (.t 0)),zv 2 zf]
def q12:IC:=zr [zv 3 (zl 5 1),zi 4 (zk 77 [zA 3]),zm 5 4,zw 5 true 6 (zl 5 1),zj 5 true 7 (zk 72 [zA 6]),zv 8 (.pick (.t 5) (.t 7) (.c (.bool false))),zm 2 8]
def k0eb:IC:=(.seq q3t (.seq q12 .ret))
@[go_sem] def s0eb:List (RV×Co):=[(.t 2,.id)]
theorem c0eb:cFun Tryz.prog 39 = some (9,k0eb,s0eb):=by kernel_rfl

def q4z:IC:=zr [zi 1 (.box (.t 0)),zv 2 (.mov (.c (.str [])))]
def q5b:IC:=zr [zv 6 (zd 1 0),zv 7 (zg 1 6)]
def q2h:IC:=zr [zv 9 (zq (.t 7) (zc 12)),zm 8 9]
def q6t:IC:=zr [zv 2 (.mov (.c (.str [95])))]
def q18:IC:=zr [zv 11 (zq (.t 7) (zc 13)),zm 10 11]
def q85:IC:=zr [zv 12 (zd 1 2),zv 13 (zg 1 12),zi 14 (zk 78 [zI 13]),zm 2 14]
def q7b:IC:=zr [zv 15 (zd 1 3),zv 16 (zg 1 15),zm 3 16]
def q4p:IC:=zr [zv 4 (.mov (zc 0))]
def qbef:IC:=zr [zm 17 4,zv 18 (zd 1 4),zv 19 (zg 1 18),zv 20 (.len false (.t 19)),zv 21 (.bin .lss .no (.t 17) (.t 20))]
def quh:IC:=zr [zv 24 (zd 1 4),zv 25 (zg 1 24),zm 26 4,zv 27 (.iad 5 (.t 25) (.t 26)),zv 28 (zl 5 27),zi 29 (zk 40 [zA 28]),zm 5 29]
def qvj:IC:=zr [zv 30 (zd 1 4),zv 31 (zg 1 30),zm 32 4,zv 33 (.iad 5 (.t 31) (.t 32)),zv 34 (zd 33 4),zv 35 (zg 1 34),zv 36 (.len false (.t 35)),zv 37 (.bin .gtr .no (.t 36) (zc 0))]
def qwi:IC:=zr [zm 38 5,zv 39 (.bin .add .no (.c (.str [40])) (.t 38)),zv 40 (.bin .add .no (.t 39) (.c (.str [41]))),zm 5 40]
def qxh:IC:=zr [zm 41 3,zm 42 5,zv 43 (.bin .add .no (.c (.str [32])) (.t 42)),zv 44 (.bin .add .no (.t 41) (.t 43)),zm 3 44]
def qt8:IC:=zr [zm 22 4,zv 23 (.bin .add .no (.t 22) (zc 1)),zm 4 23]
def q5n:IC:=(.seq (.seq qbef (.cond (.t 21) .skip (.exit 1))) (.seq (.block 2 (.seq quh (.seq (.seq qvj (.cond (.t 37) qwi .skip)) qxh))) qt8))
def qui:IC:=zr [zm 45 3,zm 2 45]
def k0dy:IC:=(.seq q4z (.seq (.seq q5b (.block 0 (.seq q2h (.cond (.t 8) (.seq q6t .ret) (.seq q18 (.cond (.t 10) (.seq q85 .ret) .skip)))))) (.seq q7b (.seq (.seq q4p (.block 1 (.loop q5n))) (.seq qui .ret)))))
@[go_sem] def s0dy:List (RV×Co):=[(.t 2,.id)]
theorem c0dy:cFun Tryz.prog 40 = some (46,k0dy,s0dy):=by kernel_rfl

def qbab:IC:=zr [zi 1 (.box (.t 0)),zv 2 zf]
def q41:IC:=zr [zv 3 (zl 5 1),zi 4 (zk 79 [zA 3]),zm 5 4,zw 5 true 6 (zl 5 1),zj 5 true 7 (zk 72 [zA 6]),zv 8 (.pick (.t 5) (.t 7) (.c (.bool false))),zm 2 8]
def k0ec:IC:=(.seq qbab (.seq q41 .ret))
@[go_sem] def s0ec:List (RV×Co):=[(.t 2,.id)]
theorem c0ec:cFun Tryz.prog 41 = some (9,k0ec,s0ec):=by kernel_rfl

def q6s:IC:=zr [zi 1 (.box (.t 0)),zv 2 (.mov (.c (.str [])))]
def q5q:IC:=zr [zv 8 (zd 1 4),zv 9 (zg 1 8),zv 10 (.len false (.t 9)),zv 11 (.bin .sub .no (.t 10) (zc 1)),zm 3 11]
def q0s:IC:=zr [zv 12 (zd 1 0),zv 13 (zg 1 12)]
def q15:IC:=zr [zv 15 (zq (.t 13) (zc 23)),zm 14 15]
def q9c:IC:=zr [zv 16 (zd 1 2),zv 17 (zg 1 16),zi 18 (zk 78 [zI 17]),zm 2 18]
def q9o:IC:=zr [zv 20 (zq (.t 13) (zc 24)),zm 19 20]
def qho:IC:=.drw [zp (zv 21 (zd 1 4)),zp (zv 22 (zg 1 21)),zp (zv 23 (.iad 5 (.t 22) (zc 0))),zp (zv 24 (zl 5 23)),zp (zv 25 (zd 1 4)),zp (zv 26 (zg 1 25)),zp (zv 27 (.iad 5 (.t 26) (zc 1))),zp (zv 28 (zl 5 27)),(zi 4 zaN,[1,3,5,7]),(zi 5 zaN,[1,3,5,7,8]),(zn (.st 5 zN (.t 4) (.t 24)),[5,7]),(zn (.st 5 zN (.t 5) (.t 28)),[])]
def qbaa:IC:=.drw [zp (zv 29 (zl 5 4)),zp (zv 30 (zd 4 0)),zp (zv 31 (zg 1 30)),zp (zv 32 (zq (.t 31) (zc 24))),zp (zm 33 32),zp (zw 33 false 34 (zl 5 4)),(zj 33 false 35 (zk 81 [zA 34]),[0]),zp (zv 36 (.pick (.t 33) (.c (.bool true)) (.t 35))),(zi 37 (zk 80 [zA 29,zI 36]),[]),(zv 38 (.bin .add .no (.t 37) (.c (.str [32]))),[]),(zv 39 (zl 5 5),[6,8]),(zv 40 (zl 5 5),[6,8]),(zi 41 (zk 81 [zA 40]),[10]),(zi 42 (zk 80 [zA 39,zI 41]),[]),zp (zv 43 (.bin .add .no (.t 38) (.t 42))),zp (zm 2 43)]
def q6m:IC:=zr [zv 45 (zq (.t 13) (zc 25)),zm 44 45]
def q5f:IC:=.drw [(zv 46 (.bsl 1 [((.c (.int .u8 92)),.id)]),[]),zp (zv 47 (.cbs (.t 46))),(zv 48 (.bin .add .no (.t 47) (.c (.str [32]))),[]),zp (zv 49 (zd 1 3)),zp (zv 50 (zg 1 49)),zp (zv 51 (.bin .add .no (.t 48) (.t 50))),(zv 52 (.bin .add .no (.t 51) (.c (.str [32,45,62,32]))),[]),zp (zv 53 (zd 1 4)),zp (zv 54 (zg 1 53)),zp (zv 55 (.iad 5 (.t 54) (zc 0))),zp (zv 56 (zl 5 55)),(zi 57 (zk 42 [zA 56]),[0,1,4]),zp (zv 58 (.bin .add .no (.t 52) (.t 57))),zp (zm 2 58)]
def qvv:IC:=zr [zv 60 (zq (.t 13) (zc 26)),zm 59 60]
def qvr:IC:=.drw [zp (zv 61 (zd 1 4)),zp (zv 62 (zg 1 61)),zp (zm 63 3),zp (zv 64 (.slv 5 (.t 62) none (some (.t 63)) none)),(zi 65 (zk 82 [((.t 64),(.sl 5))]),[]),(zv 66 (.bin .add .no (.c (.str [108,101,116,32])) (.t 65)),[]),(zv 67 (.bin .add .no (.t 66) (.c (.str [32,105,110,32]))),[]),zp (zv 68 (zd 1 4)),(zv 69 (zg 1 68),[4]),zp (zm 70 3),zp (zv 71 (.iad 5 (.t 69) (.t 70))),(zv 72 (zl 5 71),[4]),(zi 73 (zk 42 [zA 72]),[]),zp (zv 74 (.bin .add .no (.t 67) (.t 73))),zp (zm 2 74)]
def qzm:IC:=zr [zv 76 (zq (.t 13) (zc 28)),zm 75 76]
def qv5:IC:=.drw [zp (zv 77 (zd 1 4)),zp (zv 78 (zg 1 77)),zp (zv 79 (.iad 5 (.t 78) (zc 0))),zp (zv 80 (zl 5 79)),(zi 81 (zk 42 [zA 80]),[]),(zv 82 (.bin .add .no (.c (.str [105,102,32])) (.t 81)),[]),(zv 83 (.bin .add .no (.t 82) (.c (.str [32,116,104,101,110,32]))),[]),zp (zv 84 (zd 1 4)),(zv 85 (zg 1 84),[4]),zp (zv 86 (.iad 5 (.t 85) (zc 1))),(zv 87 (zl 5 86),[4]),(zi 88 (zk 42 [zA 87]),[]),zp (zv 89 (.bin .add .no (.t 83) (.t 88))),(zv 90 (.bin .add .no (.t 89) (.c (.str [32,101,108,115,101,32]))),[]),zp (zv 91 (zd 1 4)),(zv 92 (zg 1 91),[4,11]),zp (zv 93 (.iad 5 (.t 92) (zc 2))),(zv 94 (zl 5 93),[4,11]),(zi 95 (zk 42 [zA 94]),[]),zp (zv 96 (.bin .add .no (.t 90) (.t 95))),zp (zm 2 96)]
def qt5:IC:=zr [zv 98 (zq (.t 13) (zc 27)),zm 97 98]
def qy3:IC:=zr [zv 6 (.mov (.c (.str [])))]
def qy1:IC:=zr [zv 7 (.mov (zc 1))]
def qvg:IC:=zr [zm 99 7,zm 100 3,zv 101 (.bin .leq .no (.t 99) (.t 100))]
def qzk:IC:=zr [zm 104 7,zv 105 (.bin .gtr .no (.t 104) (zc 1))]
def qxz:IC:=zr [zm 106 6,zv 107 (.bin .add .no (.t 106) (.c (.str [59,32]))),zm 6 107]
def qu9:IC:=.drw [zp (zm 108 6),zp (zv 109 (zd 1 4)),zp (zv 110 (zg 1 109)),zp (zm 111 7),zp (zv 112 (.iad 5 (.t 110) (.t 111))),zp (zv 113 (zd 112 4)),zp (zv 114 (zg 1 113)),zp (zv 115 (.iad 5 (.t 114) (zc 0))),zp (zv 116 (zl 5 115)),(zi 117 (zk 40 [zA 116]),[]),(zv 118 (.bin .add .no (.t 117) (.c (.str [32,45,62,32]))),[]),zp (zv 119 (zd 1 4)),(zv 120 (zg 1 119),[9]),zp (zm 121 7),zp (zv 122 (.iad 5 (.t 120) (.t 121))),zp (zv 123 (zd 122 4)),(zv 124 (zg 1 123),[9]),zp (zv 125 (.iad 5 (.t 124) (zc 1))),(zv 126 (zl 5 125),[9]),(zi 127 (zk 42 [zA 126]),[]),zp (zv 128 (.bin .add .no (.t 118) (.t 127))),zp (zv 129 (.bin .add .no (.t 108) (.t 128))),zp (zm 6 129)]
def qul:IC:=zr [zm 102 7,zv 103 (.bin .add .no (.t 102) (zc 1)),zm 7 103]
def qzu:IC:=(.seq (.seq qvg (.cond (.t 101) .skip (.exit 1))) (.seq (.block 2 (.seq (.seq qzk (.cond (.t 105) qxz .skip)) qu9)) qul))
def qtx:IC:=zr [zv 130 (zd 1 4),zv 131 (zg 1 130),zv 132 (.iad 5 (.t 131) (zc 0)),zv 133 (zl 5 132),zi 134 (zk 42 [zA 133]),zv 135 (.bin .add .no (.c (.str [99,97,115,101,32])) (.t 134)),zv 136 (.bin .add .no (.t 135) (.c (.str [32,111,102,32,123,32]))),zm 137 6,zv 138 (.bin .add .no (.t 136) (.t 137)),zv 139 (.bin .add .no (.t 138) (.c (.str [32,125]))),zm 2 139]
def qzq:IC:=zr [zv 140 (zd 1 3),zv 141 (zg 1 140),zm 2 141]
def k0dq:IC:=(.seq q6s (.seq q5q (.seq (.seq q0s (.block 0 (.seq q15 (.cond (.t 14) (.seq q9c .ret) (.seq q9o (.cond (.t 19) (.seq qho (.seq qbaa .ret)) (.seq q6m (.cond (.t 44) (.seq q5f .ret) (.seq qvv (.cond (.t 59) (.seq qvr .ret) (.seq qzm (.cond (.t 75) (.seq qv5 .ret) (.seq qt5 (.cond (.t 97) (.seq qy3 (.seq (.seq qy1 (.block 1 (.loop qzu))) (.seq qtx .ret))) .skip)))))))))))))) (.seq qzq .ret))))
@[go_sem] def s0dq:List (RV×Co):=[(.t 2,.id)]
theorem c0dq:cFun Tryz.prog 42 = some (142,k0dq,s0dq):=by kernel_rfl

def q8m:IC:=zr [zi 1 (.box (.t 0)),zv 2 (.mov (.c (.str [])))]
def q44:IC:=zr [zv 6 (zd 1 0),zv 7 (zg 1 6)]
def qbdy:IC:=zr [zv 9 (zq (.t 7) (zc 31)),zm 8 9]
def qbe5:IC:=.drw [zp (zv 10 (zd 1 3)),zp (zv 11 (zg 1 10)),(zv 12 (.bin .add .no (.t 11) (.c (.str [32,61,32]))),[]),zp (zv 13 (zd 1 4)),zp (zv 14 (zg 1 13)),zp (zv 15 (.iad 5 (.t 14) (zc 0))),zp (zv 16 (zl 5 15)),(zi 17 (zk 42 [zA 16]),[1]),zp (zv 18 (.bin .add .no (.t 12) (.t 17))),zp (zm 2 18)]
def qbec:IC:=zr [zv 20 (zq (.t 7) (zc 32)),zm 19 20]
def q6u:IC:=.drw [zp (zv 21 (zd 1 3)),zp (zv 22 (zg 1 21)),(zv 23 (.bin .add .no (.t 22) (.c (.str [32,58,58,32]))),[]),zp (zv 24 (zd 1 4)),zp (zv 25 (zg 1 24)),zp (zv 26 (.iad 5 (.t 25) (zc 0))),zp (zv 27 (zl 5 26)),(zi 28 (zk 38 [zA 27]),[1]),zp (zv 29 (.bin .add .no (.t 23) (.t 28))),zp (zm 2 29)]
def q5h:IC:=zr [zv 31 (zq (.t 7) (zc 33)),zm 30 31]
def qbd7:IC:=zr [zv 32 (zd 1 3),zv 33 (zg 1 32),zv 34 (.bin .add .no (.c (.str [100,97,116,97,32])) (.t 33)),zm 3 34]
def q0p:IC:=zr [zv 4 (.mov (zc 0))]
def qxb:IC:=zr [zm 35 4,zv 36 (zd 1 2),zv 37 (zg 1 36),zv 38 (.bin .lss .no (.t 35) (.t 37))]
def qys:IC:=zr [zm 41 3,zv 42 (zd 1 4),zv 43 (zg 1 42),zm 44 4,zv 45 (.iad 5 (.t 43) (.t 44)),zv 46 (zd 45 3),zv 47 (zg 1 46),zv 48 (.bin .add .no (.c (.str [32])) (.t 47)),zv 49 (.bin .add .no (.t 41) (.t 48)),zm 3 49]
def qu7:IC:=zr [zm 39 4,zv 40 (.bin .add .no (.t 39) (zc 1)),zm 4 40]
def q3z:IC:=(.seq (.seq qxb (.cond (.t 38) .skip (.exit 1))) (.seq (.block 2 qys) qu7))
def qx1:IC:=zr [zv 50 (zd 1 2),zv 51 (zg 1 50),zm 5 51]
def qxn:IC:=zr [zm 52 5,zv 53 (zd 1 4),zv 54 (zg 1 53),zv 55 (.len false (.t 54)),zv 56 (.bin .lss .no (.t 52) (.t 55))]
def qum:IC:=zr [zm 59 5,zv 60 (zd 1 2),zv 61 (zg 1 60),zv 62 (zq (.t 59) (.t 61))]
def qwm:IC:=zr [zm 63 3,zv 64 (.bin .add .no (.t 63) (.c (.str [32,61]))),zm 3 64]
def qvi:IC:=zr [zm 65 3,zv 66 (.bin .add .no (.t 65) (.c (.str [32,124]))),zm 3 66]
def qv3:IC:=zr [zm 67 3,zv 68 (zd 1 4),zv 69 (zg 1 68),zm 70 5,zv 71 (.iad 5 (.t 69) (.t 70)),zv 72 (zl 5 71),zi 73 (zk 35 [zA 72]),zv 74 (.bin .add .no (.c (.str [32])) (.t 73)),zv 75 (.bin .add .no (.t 67) (.t 74)),zm 3 75]
def qzp:IC:=zr [zm 57 5,zv 58 (.bin .add .no (.t 57) (zc 1)),zm 5 58]
def qt3:IC:=(.seq (.seq qxn (.cond (.t 56) .skip (.exit 3))) (.seq (.block 4 (.seq (.seq qum (.cond (.t 62) qwm qvi)) qv3)) qzp))
def qwt:IC:=zr [zm 76 3,zm 2 76]
def qzl:IC:=zr [zv 78 (zq (.t 7) (zc 35)),zm 77 78]
def qwz:IC:=.drw [zp (zv 79 (zd 1 4)),zp (zv 80 (zg 1 79)),zp (zv 81 (zd 1 2)),zp (zv 82 (zg 1 81)),zp (zv 83 (.slv 5 (.t 80) none (some (.t 82)) none)),(zi 84 (zk 76 [((.t 83),(.sl 5))]),[]),(zv 85 (.bin .add .no (.c (.str [99,108,97,115,115,32])) (.t 84)),[]),zp (zv 86 (zd 1 3)),(zv 87 (zg 1 86),[5]),zp (zv 88 (.bin .add .no (.t 85) (.t 87))),(zv 89 (.bin .add .no (.t 88) (.c (.str [32]))),[]),zp (zv 90 (zd 1 4)),(zv 91 (zg 1 90),[5]),zp (zv 92 (zd 1 2)),(zv 93 (zg 1 92),[5]),zp (zv 94 (.iad 5 (.t 91) (.t 93))),zp (zv 95 (zd 94 3)),(zv 96 (zg 1 95),[5]),zp (zv 97 (.bin .add .no (.t 89) (.t 96))),(zv 98 (.bin .add .no (.t 97) (.c (.str [32,119,104,101,114,101,32]))),[]),zp (zv 99 (zd 1 4)),(zv 100 (zg 1 99),[5]),zp (zv 101 (zd 1 2)),(zv 102 (zg 1 101),[5]),zp (zv 103 (.bin .add .no (.t 102) (zc 1))),(zv 104 (.slv 5 (.t 100) (some (.t 103)) none none),[5]),(zi 105 (zk 82 [((.t 104),(.sl 5))]),[8,12,14,17]),zp (zv 106 (.bin .add .no (.t 98) (.t 105))),zp (zm 2 106)]
def qwb:IC:=.drw [zp (zv 107 (zd 1 4)),zp (zv 108 (zg 1 107)),zp (zv 109 (zd 1 2)),zp (zv 110 (zg 1 109)),zp (zv 111 (.slv 5 (.t 108) none (some (.t 110)) none)),(zi 112 (zk 76 [((.t 111),(.sl 5))]),[]),(zv 113 (.bin .add .no (.c (.str [105,110,115,116,97,110,99,101,32])) (.t 112)),[]),zp (zv 114 (zd 1 3)),(zv 115 (zg 1 114),[5]),zp (zv 116 (.bin .add .no (.t 113) (.t 115))),(zv 117 (.bin .add .no (.t 116) (.c (.str [32]))),[]),zp (zv 118 (zd 1 4)),(zv 119 (zg 1 118),[5]),zp (zv 120 (zd 1 2)),(zv 121 (zg 1 120),[5]),zp (zv 122 (.iad 5 (.t 119) (.t 121))),(zv 123 (zl 5 122),[5]),(zi 124 (zk 73 [zA 123]),[8]),zp (zv 125 (.bin .add .no (.t 117) (.t 124))),(zv 126 (.bin .add .no (.t 125) (.c (.str [32,119,104,101,114,101,32]))),[]),zp (zv 127 (zd 1 4)),(zv 128 (zg 1 127),[5,17]),zp (zv 129 (zd 1 2)),(zv 130 (zg 1 129),[5,17]),zp (zv 131 (.bin .add .no (.t 130) (zc 1))),(zv 132 (.slv 5 (.t 128) (some (.t 131)) none none),[5,17]),(zi 133 (zk 82 [((.t 132),(.sl 5))]),[8]),zp (zv 134 (.bin .add .no (.t 126) (.t 133))),zp (zm 2 134)]
def k0dp:IC:=(.seq q8m (.seq (.seq q44 (.block 0 (.seq qbdy (.cond (.t 8) (.seq qbe5 .ret) (.seq qbec (.cond (.t 19) (.seq q6u .ret) (.seq q5h (.cond (.t 30) (.seq qbd7 (.seq (.seq q0p (.block 1 (.loop q3z))) (.seq (.seq qx1 (.block 3 (.loop qt3))) (.seq qwt .ret)))) (.seq qzl (.cond (.t 77) (.seq qwz .ret) .skip)))))))))) (.seq qwb .ret)))
@[go_sem] def s0dp:List (RV×Co):=[(.t 2,.id)]
theorem c0dp:cFun Tryz.prog 43 = some (135,k0dp,s0dp):=by kernel_rfl

def qbgs:IC:=zr [zv 6 (.mov (.c (.str [])))]
def qbhp:IC:=zr [zm 10 0,zv 11 (.len false (.t 10)),zi 12 (.mks 1 (.str []) 16 (.t 11) (.t 11)),zm 7 12]
def qbjp:IC:=zr [zm 13 0,zv 14 (.len false (.t 13)),zv 15 (.mov (zc 0))]
def qbgq:IC:=zr [zv 16 (.bin .lss .no (.t 15) (.t 14))]
def qbf4:IC:=zr [zm 17 15,zv 18 (.iad 5 (.t 13) (.t 15)),zv 19 (zl 5 18),zi 9 zaN,zm 8 17,zn (.st 5 zN (.t 9) (.t 19))]
def qbhy:IC:=zr [zm 20 7,zm 21 8,zm 22 2,zv 23 (zl 5 9),zi 24 (.call (.t 22) [zA 23]),zv 25 (.iad 1 (.t 20) (.t 21)),zn (.st 1 .id (.t 25) (.t 24))]
def qbh9:IC:=zr [zv 26 (.bin .add .no (.t 15) (zc 1)),zm 15 26]
def qbh2:IC:=(.seq qbgq (.seq (.cond (.t 16) .skip (.exit 0)) (.seq (.block 1 (.seq qbf4 qbhy)) qbh9)))
def qbig:IC:=zr [zm 27 7,zm 28 1,zi 29 (zk 83 [((.t 27),(.sl 1)),zI 28]),zm 6 29]
def k0u:IC:=(.seq qbgs (.seq qbhp (.seq (.seq qbjp (.block 0 (.loop qbh2))) (.seq qbig .ret))))
@[go_sem] def s0u:List (RV×Co):=[(.t 6,.id)]
theorem c0u:cFun Tryz.prog 44 = some (30,k0u,s0u):=by kernel_rfl

def qbfd:IC:=zr [zi 1 (.box (.t 0)),zv 2 (.mov (.c (.str [])))]
def qbha:IC:=zr [zv 3 (zl 5 1),zv 4 (.bld [(.int .i64 0),(.int .i64 0),(.int .i64 0),(.str []),.nils] [(0,5,(.t 3))]),zv 5 (.mki 40 (.t 4) zN),zi 6 (zk 46 [zI 5]),zv 7 (.bin .add .no (.t 6) (.c (.str [59,10]))),zm 2 7]
def k0i:IC:=(.seq qbfd (.seq qbha .ret))
@[go_sem] def s0i:List (RV×Co):=[(.t 2,.id)]
theorem c0i:cFun Tryz.prog 45 = some (8,k0i,s0i):=by kernel_rfl

def qbjw:IC:=zr [zv 2 (.mov (.c (.str [])))]
def qbgp:IC:=zr [zm 7 0]
def qbia:IC:=zr [zv 8 (.tya 37 zZ (.t 7)),zv 9 (zx 8 1),zv 10 (zx 8 0)]
def qbfl:IC:=zr [zi 3 zaN,zn (.st 5 zN (.t 3) (.t 10))]
def qbid:IC:=zr [zv 11 (zl 5 3),zi 12 (zk 84 [zA 11]),zm 2 12]
def qbkj:IC:=zr [zv 13 (.tya 38 zZ (.t 7)),zv 14 (zx 13 1),zv 15 (zx 13 0)]
def qbjs:IC:=zr [zi 4 zaN,zn (.st 5 zN (.t 4) (.t 15))]
def qbiq:IC:=zr [zv 16 (zl 5 4),zi 17 (zk 85 [zA 16]),zm 2 17]
def qbiv:IC:=zr [zv 18 (.tya 39 zZ (.t 7)),zv 19 (zx 18 1),zv 20 (zx 18 0)]
def qbgf:IC:=zr [zi 5 zaN,zn (.st 5 zN (.t 5) (.t 20))]
def qbcx:IC:=zr [zv 21 (zl 5 5),zi 22 (zk 86 [zA 21]),zm 2 22]
def q8d:IC:=zr [zv 23 (.tya 40 zZ (.t 7)),zv 24 (zx 23 1),zv 25 (zx 23 0)]
def qbcn:IC:=zr [zi 6 zaN,zn (.st 5 zN (.t 6) (.t 25))]
def qbdj:IC:=zr [zv 26 (zl 5 6),zi 27 (zk 87 [zA 26]),zm 2 27]
def q2k:IC:=zr [zv 2 (.mov (.c (.str [])))]
def k0m:IC:=(.seq qbjw (.seq (.seq qbgp (.block 0 (.seq qbia (.cond (.t 9) (.seq qbfl (.seq qbid .ret)) (.seq qbkj (.cond (.t 14) (.seq qbjs (.seq qbiq .ret)) (.seq qbiv (.cond (.t 19) (.seq qbgf (.seq qbcx .ret)) (.seq q8d (.cond (.t 24) (.seq qbcn (.seq qbdj .ret)) .skip)))))))))) (.seq q2k .ret)))
@[go_sem] def s0m:List (RV×Co):=[(.t 2,.id)]
theorem c0m:cFun Tryz.prog 46 = some (28,k0m,s0m):=by kernel_rfl

def qbbx:IC:=zr [zi 1 (.box (.t 0)),zi 2 (.alo [(.bool false)])]
def q1h:IC:=zr [zv 4 (zl 5 1),zi 5 (zk 88 [zA 4,((zc 1),.id)])]
def q9z:IC:=zr [zm 8 3,zv 9 (.bin .gtr .no (.t 8) (zc 100))]
def q7k:IC:=zr [zn (.st 1 .id (.t 2) (.c (.bool false)))]
def qsl:IC:=(.block 1 (.seq q9z (.cond (.t 9) (.seq q7k .ret) .skip)))
def qqk:IC:=zr [zm 3 6]
def qba6:IC:=zr [zn (.st 1 .id (.t 2) (.c (.bool true)))]
def k0cj:IC:=(.seq qbbx (.seq (.seq q1h (.block 0 (.rng (.t 5) [6,7] qqk qsl))) (.seq qba6 .ret)))
@[go_sem] def s0cj:List (RV×Co):=[(.c false 1 2,.id)]
theorem c0cj:cFun Tryz.prog 47 = some (10,k0cj,s0cj):=by kernel_rfl

def qbaz:IC:=zr [zi 1 (.box (.t 0)),zv 2 zf]
def q3c:IC:=zr [zv 4 (zd 1 0),zv 5 (zg 1 4),zv 6 (zq (.t 5) (zc 1)),zm 3 6]
def qbet:IC:=zr [zv 7 (zl 5 1),zi 8 (zk 89 [zA 7,((.c (.fn 90 [] [])),.id)]),zm 9 8,zw 9 true 10 (zd 1 4),zw 9 true 11 (zg 1 10),zw 9 true 12 (.len false (.t 11)),zw 9 true 13 (zq (.t 12) (zc 0)),zv 14 (.pick (.t 9) (.t 13) (.c (.bool false))),zm 2 14]
def q5t:IC:=zr [zv 16 (zd 1 0),zv 17 (zg 1 16),zv 18 (.bin .neq .no (.t 17) (zc 2)),zm 19 18,zw 19 false 20 (zd 1 2),zw 19 false 21 (zg 1 20),zw 19 false 22 (.bin .neq .no (.t 21) (zc 0)),zv 23 (.pick (.t 19) (.c (.bool true)) (.t 22)),zm 15 23]
def q2n:IC:=zr [zv 2 zf]
def q62:IC:=zr [zv 25 (zd 1 3),zv 26 (zg 1 25),zv 27 (zq (.t 26) (.c (.str [45,62]))),zm 24 27]
def q7u:IC:=zr [zv 28 (zd 1 4),zv 29 (zg 1 28),zv 30 (.len false (.t 29)),zv 31 (zq (.t 30) (zc 2)),zm 32 31,zw 32 true 33 (zd 1 4),zw 32 true 34 (zg 1 33),zj 32 true 35 (zk 68 [((.t 34),(.sl 5)),((.c (.fn 48 [] [])),.id)]),zv 36 (.pick (.t 32) (.t 35) (.c (.bool false))),zm 2 36]
def qbaj:IC:=zr [zv 37 (zd 1 3),zv 38 (zg 1 37),zi 39 (zk 91 [zI 38]),zm 40 39,zw 40 true 41 (zd 1 4),zw 40 true 42 (zg 1 41),zj 40 true 43 (zk 68 [((.t 42),(.sl 5)),((.c (.fn 48 [] [])),.id)]),zv 44 (.pick (.t 40) (.t 43) (.c (.bool false))),zm 2 44]
def k0bt:IC:=(.seq qbaz (.seq (.block 0 (.seq q3c (.cond (.t 3) (.seq qbet .ret) (.seq q5t (.cond (.t 15) (.seq q2n .ret) (.seq q62 (.cond (.t 24) (.seq q7u .ret) .skip))))))) (.seq qbaj .ret)))
@[go_sem] def s0bt:List (RV×Co):=[(.t 2,.id)]
theorem c0bt:cFun Tryz.prog 48 = some (45,k0bt,s0bt):=by kernel_rfl

def q69:IC:=zr [zi 1 (.box (.t 0)),zv 2 zf]
def q5d:IC:=zr [zv 3 (zd 1 0),zv 4 (zg 1 3)]
def q19:IC:=zr [zv 6 (zq (.t 4) (zc 11)),zm 5 6]
def q6f:IC:=zr [zv 7 (zl 5 1),zi 8 (zk 89 [zA 7,((.c (.fn 90 [] [])),.id)]),zm 9 8,zw 9 true 10 (zd 1 4),zw 9 true 11 (zg 1 10),zw 9 true 12 (.len false (.t 11)),zw 9 true 13 (zq (.t 12) (zc 0)),zv 14 (.pick (.t 9) (.t 13) (.c (.bool false))),zm 2 14]
def qbaf:IC:=zr [zv 16 (zq (.t 4) (zc 12)),zm 15 16]
def q8l:IC:=zr [zv 17 (zl 5 1),zi 18 (zk 67 [zA 17]),zm 19 18,zw 19 true 20 (zd 1 4),zw 19 true 21 (zg 1 20),zw 19 true 22 (.len false (.t 21)),zw 19 true 23 (zq (.t 22) (zc 0)),zv 24 (.pick (.t 19) (.t 23) (.c (.bool false))),zm 2 24]
def q9y:IC:=zr [zv 26 (zq (.t 4) (zc 13)),zm 25 26]
def qbau:IC:=zr [zv 27 (zd 1 3),zv 28 (zg 1 27),zv 29 (zq (.t 28) (.c (.str []))),zm 30 29,zw 30 true 31 (zd 1 2),zw 30 true 32 (zg 1 31),zw 30 true 33 (.bin .geq .no (.t 32) (zc 0)),zv 34 (.pick (.t 30) (.t 33) (.c (.bool false))),zm 35 34,zw 35 true 36 (zd 1 4),zw 35 true 37 (zg 1 36),zw 35 true 38 (.len false (.t 37)),zw 35 true 39 (zq (.t 38) (zc 0)),zv 40 (.pick (.t 35) (.t 39) (.c (.bool false))),zm 2 40]
def qbev:IC:=zr [zv 42 (zq (.t 4) (zc 14)),zm 41 42]
def q4v:IC:=zr [zv 43 (zl 5 1),zi 44 (zk 89 [zA 43,((.c (.fn 91 [] [])),.id)]),zm 45 44,zw 45 true 46 (zd 1 4),zw 45 true 47 (zg 1 46),zj 45 true 48 (zk 68 [((.t 47),(.sl 5)),((.c (.fn 51 [] [])),.id)]),zv 49 (.pick (.t 45) (.t 48) (.c (.bool false))),zm 2 49]
def qya:IC:=zr [zv 2 zf]
def k0bw:IC:=(.seq q69 (.seq (.seq q5d (.block 0 (.seq q19 (.cond (.t 5) (.seq q6f .ret) (.seq qbaf (.cond (.t 15) (.seq q8l .ret) (.seq q9y (.cond (.t 25) (.seq qbau .ret) (.seq qbev (.cond (.t 41) (.seq q4v .ret) .skip)))))))))) (.seq qya .ret)))
@[go_sem] def s0bw:List (RV×Co):=[(.t 2,.id)]
theorem c0bw:cFun Tryz.prog 51 = some (50,k0bw,s0bw):=by kernel_rfl

def q3x:IC:=zr [zi 1 (.box (.t 0)),zv 2 zf]
def q1r:IC:=zr [zv 5 (zd 1 4),zv 6 (zg 1 5),zv 7 (.len false (.t 6)),zm 3 7]
def qbby:IC:=zr [zv 8 (zd 1 0),zv 9 (zg 1 8)]
def q1x:IC:=zr [zv 11 (zq (.t 9) (zc 21)),zm 10 11]
def q3g:IC:=zr [zv 12 (zl 5 1),zi 13 (zk 89 [zA 12,((.c (.fn 90 [] [])),.id)]),zm 14 13,zw 14 true 15 (zo 3),zw 14 true 16 (zq (.t 15) (zc 0)),zv 17 (.pick (.t 14) (.t 16) (.c (.bool false))),zm 2 17]
def qbbd:IC:=zr [zv 19 (zq (.t 9) (zc 22)),zm 18 19]
def qbed:IC:=zr [zv 20 (zl 5 1),zi 21 (zk 89 [zA 20,((.c (.fn 91 [] [])),.id)]),zm 22 21,zw 22 true 23 (zo 3),zw 22 true 24 (zq (.t 23) (zc 0)),zv 25 (.pick (.t 22) (.t 24) (.c (.bool false))),zm 2 25]
def q13:IC:=zr [zv 27 (zq (.t 9) (zc 23)),zm 26 27]
def q17:IC:=zr [zv 28 (zd 1 3),zv 29 (zg 1 28),zv 30 (zq (.t 29) (.c (.str []))),zm 31 30,zw 31 true 32 (zd 1 2),zw 31 true 33 (zg 1 32),zw 31 true 34 (.bin .geq .no (.t 33) (zc 0)),zv 35 (.pick (.t 31) (.t 34) (.c (.bool false))),zm 36 35,zw 36 true 37 (zo 3),zw 36 true 38 (zq (.t 37) (zc 0)),zv 39 (.pick (.t 36) (.t 38) (.c (.bool false))),zm 2 39]
def qbeb:IC:=zr [zv 41 (zq (.t 9) (zc 24)),zm 40 41]
def qzj:IC:=zr [zv 42 (zl 5 1),zi 43 (zk 67 [zA 42]),zm 44 43,zw 44 true 45 (zo 3),zw 44 true 46 (zq (.t 45) (zc 2)),zv 47 (.pick (.t 44) (.t 46) (.c (.bool false))),zm 48 47,zw 48 true 49 (zd 1 4),zw 48 true 50 (zg 1 49),zj 48 true 51 (zk 68 [((.t 50),(.sl 5)),((.c (.fn 57 [] [])),.id)]),zv 52 (.pick (.t 48) (.t 51) (.c (.bool false))),zm 2 52]
def qts:IC:=zr [zv 54 (zq (.t 9) (zc 25)),zm 53 54]
def qxs:IC:=zr [zv 55 (zl 5 1),zi 56 (zk 89 [zA 55,((.c (.fn 90 [] [])),.id)]),zm 57 56,zw 57 true 58 (zo 3),zw 57 true 59 (zq (.t 58) (zc 1)),zv 60 (.pick (.t 57) (.t 59) (.c (.bool false))),zm 61 60,zw 61 true 62 (zd 1 4),zw 61 true 63 (zg 1 62),zw 61 true 64 (.iad 5 (.t 63) (zc 0)),zw 61 true 65 (zl 5 64),zj 61 true 66 (zk 57 [zA 65]),zv 67 (.pick (.t 61) (.t 66) (.c (.bool false))),zm 2 67]
def qy5:IC:=zr [zv 69 (zq (.t 9) (zc 26)),zm 68 69]
def qxd:IC:=zr [zv 4 (.mov (.c (.fn 99 [] [])))]
def qug:IC:=zr [zv 70 (zl 5 1),zi 71 (zk 67 [zA 70]),zm 72 71,zw 72 true 73 (zo 3),zw 72 true 74 (.bin .geq .no (.t 73) (zc 2)),zv 75 (.pick (.t 72) (.t 74) (.c (.bool false))),zm 76 75,zw 76 true 77 (zd 1 4),zw 76 true 78 (zg 1 77),zw 76 true 79 (zo 3),zw 76 true 80 (.bin .sub .no (.t 79) (zc 1)),zw 76 true 81 (.slv 5 (.t 78) none (some (.t 80)) none),zw 76 true 82 (zo 4),zj 76 true 83 (zk 68 [((.t 81),(.sl 5)),zI 82]),zv 84 (.pick (.t 76) (.t 83) (.c (.bool false))),zm 85 84,zw 85 true 86 (zd 1 4),zw 85 true 87 (zg 1 86),zw 85 true 88 (zo 3),zw 85 true 89 (.bin .sub .no (.t 88) (zc 1)),zw 85 true 90 (.iad 5 (.t 87) (.t 89)),zw 85 true 91 (zl 5 90),zj 85 true 92 (zk 57 [zA 91]),zv 93 (.pick (.t 85) (.t 92) (.c (.bool false))),zm 2 93]
def qxv:IC:=zr [zv 95 (zq (.t 9) (zc 27)),zm 94 95]
def qyy:IC:=zr [zv 96 (zl 5 1),zi 97 (zk 67 [zA 96]),zm 98 97,zw 98 true 99 (zo 3),zw 98 true 100 (.bin .geq .no (.t 99) (zc 2)),zv 101 (.pick (.t 98) (.t 100) (.c (.bool false))),zm 102 101,zw 102 true 103 (zd 1 4),zw 102 true 104 (zg 1 103),zw 102 true 105 (.iad 5 (.t 104) (zc 0)),zw 102 true 106 (zl 5 105),zj 102 true 107 (zk 57 [zA 106]),zv 108 (.pick (.t 102) (.t 107) (.c (.bool false))),zm 109 108,zw 109 true 110 (zd 1 4),zw 109 true 111 (zg 1 110),zw 109 true 112 (.slv 5 (.t 111) (some (zc 1)) none none),zj 109 true 113 (zk 68 [((.t 112),(.sl 5)),((.c (.fn 102 [] [])),.id)]),zv 114 (.pick (.t 109) (.t 113) (.c (.bool false))),zm 2 114]
def qvm:IC:=zr [zv 116 (zq (.t 9) (zc 28)),zm 115 116]
def qzb:IC:=zr [zv 117 (zl 5 1),zi 118 (zk 67 [zA 117]),zm 119 118,zw 119 true 120 (zo 3),zw 119 true 121 (zq (.t 120) (zc 3)),zv 122 (.pick (.t 119) (.t 121) (.c (.bool false))),zm 123 122,zw 123 true 124 (zd 1 4),zw 123 true 125 (zg 1 124),zj 123 true 126 (zk 68 [((.t 125),(.sl 5)),((.c (.fn 57 [] [])),.id)]),zv 127 (.pick (.t 123) (.t 126) (.c (.bool false))),zm 2 127]
def qxy:IC:=zr [zv 2 zf]
def k0bq:IC:=(.seq q3x (.seq q1r (.seq (.seq qbby (.block 0 (.seq q1x (.cond (.t 10) (.seq q3g .ret) (.seq qbbd (.cond (.t 18) (.seq qbed .ret) (.seq q13 (.cond (.t 26) (.seq q17 .ret) (.seq qbeb (.cond (.t 40) (.seq qzj .ret) (.seq qts (.cond (.t 53) (.seq qxs .ret) (.seq qy5 (.cond (.t 68) (.seq qxd (.seq qug .ret)) (.seq qxv (.cond (.t 94) (.seq qyy .ret) (.seq qvm (.cond (.t 115) (.seq qzb .ret) .skip)))))))))))))))))) (.seq qxy .ret))))
@[go_sem] def s0bq:List (RV×Co):=[(.t 2,.id)]
theorem c0bq:cFun Tryz.prog 57 = some (128,k0bq,s0bq):=by kernel_rfl

def qbcm:IC:=zr [zi 1 (.box (.t 0)),zv 2 zf]
def qbct:IC:=zr [zv 3 (zd 1 3),zv 4 (zg 1 3),zv 5 (zq (.t 4) (.c (.str []))),zm 6 5,zw 6 true 7 (zd 1 2),zw 6 true 8 (zg 1 7),zw 6 true 9 (zq (.t 8) (zc 0)),zv 10 (.pick (.t 6) (.t 9) (.c (.bool false))),zm 2 10]
def k0cf:IC:=(.seq qbcm (.seq qbct .ret))
@[go_sem] def s0cf:List (RV×Co):=[(.t 2,.id)]
theorem c0cf:cFun Tryz.prog 67 = some (11,k0cf,s0cf):=by kernel_rfl

def q0i:IC:=zr [zv 4 zf]
def qbee:IC:=zr [zm 7 0,zv 8 (.len false (.t 7)),zv 9 (.mov (zc 0))]
def qbax:IC:=zr [zv 10 (.bin .lss .no (.t 9) (.t 8))]
def qbep:IC:=zr [zv 11 (.iad 5 (.t 7) (.t 9)),zv 12 (zl 5 11),zi 6 zaN,zn (.st 5 zN (.t 6) (.t 12))]
def q5r:IC:=zr [zm 13 1,zv 14 (zl 5 6),zi 15 (.call (.t 13) [zA 14]),zv 16 (.un .not (.t 15))]
def q00:IC:=zr [zv 4 zf]
def q2s:IC:=zr [zv 17 (.bin .add .no (.t 9) (zc 1)),zm 9 17]
def q2g:IC:=(.seq qbax (.seq (.cond (.t 10) .skip (.exit 0)) (.seq (.block 1 (.seq qbep (.seq q5r (.cond (.t 16) (.seq q00 .ret) .skip)))) q2s)))
def qbbh:IC:=zr [zv 4 (.mov (.c (.bool true)))]
def k0ci:IC:=(.seq q0i (.seq (.seq qbee (.block 0 (.loop q2g))) (.seq qbbh .ret)))
@[go_sem] def s0ci:List (RV×Co):=[(.t 4,.id)]
theorem c0ci:cFun Tryz.prog 68 = some (18,k0ci,s0ci):=by kernel_rfl

def q1t:IC:=zr [zi 1 (.box (.t 0)),zv 2 zf]
def qba3:IC:=zr [zv 6 (zd 1 0),zv 7 (zg 1 6)]
def qbbm:IC:=zr [zv 9 (zq (.t 7) (zc 31)),zm 8 9]
def q1q:IC:=zr [zv 10 (zl 5 1),zi 11 (zk 100 [zA 10]),zm 2 11]
def qbbn:IC:=zr [zv 13 (zq (.t 7) (zc 32)),zm 12 13]
def qbb4:IC:=zr [zv 14 (zl 5 1),zi 15 (zk 101 [zA 14]),zm 2 15]
def qbdk:IC:=zr [zv 16 (zd 1 3),zv 17 (zg 1 16),zi 18 (zk 91 [zI 17]),zv 19 (.un .not (.t 18)),zm 20 19,zw 20 false 21 (zd 1 2),zw 20 false 22 (zg 1 21),zw 20 false 23 (.bin .lss .no (.t 22) (zc 0)),zv 24 (.pick (.t 20) (.c (.bool true)) (.t 23)),zm 25 24,zw 25 false 26 (zd 1 2),zw 25 false 27 (zg 1 26),zw 25 false 28 (zd 1 4),zw 25 false 29 (zg 1 28),zw 25 false 30 (.len false (.t 29)),zw 25 false 31 (.bin .geq .no (.t 27) (.t 30)),zv 32 (.pick (.t 25) (.c (.bool true)) (.t 31))]
def q1s:IC:=zr [zv 2 zf]
def q7z:IC:=.drw [zp (zv 33 (zd 1 4)),zp (zv 34 (zg 1 33)),zp (zv 35 (zd 1 2)),zp (zv 36 (zg 1 35)),zp (zv 37 (.slv 5 (.t 34) none (some (.t 36)) none)),zp (zv 38 (zd 1 4)),zp (zv 39 (zg 1 38)),zp (zv 40 (zd 1 2)),zp (zv 41 (zg 1 40)),zp (zv 42 (.iad 5 (.t 39) (.t 41))),zp (zv 43 (zl 5 42)),zp (zv 44 (zd 1 4)),zp (zv 45 (zg 1 44)),zp (zv 46 (zd 1 2)),zp (zv 47 (zg 1 46)),zp (zv 48 (.bin .add .no (.t 47) (zc 1))),zp (zv 49 (.slv 5 (.t 45) (some (.t 48)) none none)),(zi 4 zaN,[1,3,4,6,8,10,12,14,16]),zp (zm 3 37),(zn (.st 5 zN (.t 4) (.t 43)),[12,14,16]),zp (zm 5 49)]
def q36:IC:=zr [zv 50 (zd 1 0),zv 51 (zg 1 50)]
def qwg:IC:=zr [zv 53 (zq (.t 51) (zc 33)),zm 52 53]
def qzc:IC:=zr [zm 54 3,zi 55 (zk 68 [((.t 54),(.sl 5)),((.c (.fn 110 [] [])),.id)]),zm 56 55,zw 56 true 57 (zl 5 4),zj 56 true 58 (zk 111 [zA 57]),zv 59 (.pick (.t 56) (.t 58) (.c (.bool false))),zm 60 59,zw 60 true 61 (zo 5),zj 60 true 62 (zk 68 [((.t 61),(.sl 5)),((.c (.fn 111 [] [])),.id)]),zv 63 (.pick (.t 60) (.t 62) (.c (.bool false))),zm 2 63]
def qxm:IC:=zr [zv 65 (zq (.t 51) (zc 35)),zm 64 65]
def qt1:IC:=zr [zm 66 3,zi 67 (zk 68 [((.t 66),(.sl 5)),((.c (.fn 112 [] [])),.id)]),zm 68 67,zw 68 true 69 (zl 5 4),zj 68 true 70 (zk 110 [zA 69]),zv 71 (.pick (.t 68) (.t 70) (.c (.bool false))),zm 72 71,zw 72 true 73 (zo 5),zj 72 true 74 (zk 68 [((.t 73),(.sl 5)),((.c (.fn 101 [] [])),.id)]),zv 75 (.pick (.t 72) (.t 74) (.c (.bool false))),zm 2 75]
def qyn:IC:=zr [zv 77 (zq (.t 51) (zc 36)),zm 76 77]
def qww:IC:=zr [zm 78 3,zi 79 (zk 68 [((.t 78),(.sl 5)),((.c (.fn 112 [] [])),.id)]),zm 80 79,zw 80 true 81 (zl 5 4),zj 80 true 82 (zk 48 [zA 81]),zv 83 (.pick (.t 80) (.t 82) (.c (.bool false))),zm 84 83,zw 84 true 85 (zo 5),zj 84 true 86 (zk 68 [((.t 85),(.sl 5)),((.c (.fn 100 [] [])),.id)]),zv 87 (.pick (.t 84) (.t 86) (.c (.bool false))),zm 2 87]
def qvo:IC:=zr [zv 2 zf]
def k0be:IC:=(.seq q1t (.seq (.seq qba3 (.block 0 (.seq qbbm (.cond (.t 8) (.seq q1q .ret) (.seq qbbn (.cond (.t 12) (.seq qbb4 .ret) .skip)))))) (.seq (.seq qbdk (.cond (.t 32) (.seq q1s .ret) .skip)) (.seq q7z (.seq (.seq q36 (.block 1 (.seq qwg (.cond (.t 52) (.seq qzc .ret) (.seq qxm (.cond (.t 64) (.seq qt1 .ret) (.seq qyn (.cond (.t 76) (.seq qww .ret) .skip)))))))) (.seq qvo .ret))))))
@[go_sem] def s0be:List (RV×Co):=[(.t 2,.id)]
theorem c0be:cFun Tryz.prog 69 = some (88,k0be,s0be):=by kernel_rfl

def qbbu:IC:=zr [zi 1 (.box (.t 0)),zv 2 zf]
def q03:IC:=zr [zv 3 (zd 1 0),zv 4 (zg 1 3)]
def q0l:IC:=zr [zv 6 (zq (.t 4) (zc 1)),zm 5 6]
def q64:IC:=zr [zv 7 (zd 1 3),zv 8 (zg 1 7),zi 9 (zk 113 [zI 8]),zm 10 9,zw 10 true 11 (zl 5 1),zj 10 true 12 (zk 114 [zA 11,((zc 0),.id)]),zv 13 (.pick (.t 10) (.t 12) (.c (.bool false))),zm 2 13]
def qbcd:IC:=zr [zv 15 (zq (.t 4) (zc 2)),zm 14 15]
def qbb7:IC:=zr [zv 16 (zd 1 3),zv 17 (zg 1 16),zi 18 (zk 115 [zI 17]),zm 19 18,zw 19 true 20 (zd 1 2),zw 19 true 21 (zg 1 20),zw 19 true 22 (zq (.t 21) (zc 0)),zv 23 (.pick (.t 19) (.t 22) (.c (.bool false))),zm 24 23,zw 24 false 25 (zd 1 3),zw 24 false 26 (zg 1 25),zw 24 false 27 (zq (.t 26) (.c (.str [45,62]))),zw 24 false 28 (zo 27),zw 28 true 29 (zl 5 1),zj 28 true 30 (zk 114 [zA 29,((zc 2),.id)]),zw 24 false 31 (.pick (.t 28) (.t 30) (.c (.bool false))),zv 32 (.pick (.t 24) (.c (.bool true)) (.t 31)),zm 33 32,zw 33 true 34 (zd 1 4),zw 33 true 35 (zg 1 34),zj 33 true 36 (zk 116 [((.t 35),(.sl 5))]),zv 37 (.pick (.t 33) (.t 36) (.c (.bool false))),zm 2 37]
def qbae:IC:=zr [zv 2 zf]
def k0bv:IC:=(.seq qbbu (.seq (.seq q03 (.block 0 (.seq q0l (.cond (.t 5) (.seq q64 .ret) (.seq qbcd (.cond (.t 14) (.seq qbb7 .ret) .skip)))))) (.seq qbae .ret)))
@[go_sem] def s0bv:List (RV×Co):=[(.t 2,.id)]
theorem c0bv:cFun Tryz.prog 71 = some (38,k0bv,s0bv):=by kernel_rfl

def q1w:IC:=zr [zi 1 (.box (.t 0)),zv 2 zf]
def q6q:IC:=zr [zv 3 (zl 5 1),zi 4 (zk 117 [zA 3]),zv 5 (.bin .leq .no (.t 4) (zc 100)),zm 2 5]
def k0ck:IC:=(.seq q1w (.seq q6q .ret))
@[go_sem] def s0ck:List (RV×Co):=[(.t 2,.id)]
theorem c0ck:cFun Tryz.prog 72 = some (6,k0ck,s0ck):=by kernel_rfl

def qbcb:IC:=zr [zi 1 (.box (.t 0)),zv 2 (.mov (.c (.str [])))]
def qbci:IC:=zr [zv 3 (zd 1 4),zv 4 (zg 1 3),zv 5 (.len false (.t 4)),zv 6 (.bin .gtr .no (.t 5) (zc 0))]
def q9d:IC:=zr [zv 7 (zl 5 1),zi 8 (zk 35 [zA 7]),zv 9 (.bin .add .no (.c (.str [40])) (.t 8)),zv 10 (.bin .add .no (.t 9) (.c (.str [41]))),zm 2 10]
def qbd1:IC:=zr [zv 11 (zl 5 1),zi 12 (zk 35 [zA 11]),zm 2 12]
def k0du:IC:=(.seq qbcb (.seq (.seq qbci (.cond (.t 6) (.seq q9d .ret) .skip)) (.seq qbd1 .ret)))
@[go_sem] def s0du:List (RV×Co):=[(.t 2,.id)]
theorem c0du:cFun Tryz.prog 73 = some (13,k0du,s0du):=by kernel_rfl

def qbjy:IC:=zr [zv 2 (.mov (.c (.str [])))]
def qbio:IC:=zr [zm 4 0,zi 5 (zk 44 [((.t 4),(.sl 5)),((.c (.str [44,32])),.id),((.c (.fn 118 [] [])),.id)]),zm 3 5]
def qbfx:IC:=zr [zm 6 0,zv 7 (.len false (.t 6))]
def qbhc:IC:=zr [zv 9 (zq (.t 7) (zc 0)),zm 8 9]
def qbf5:IC:=zr [zv 2 (.mov (.c (.str [])))]
def qbhl:IC:=zr [zv 11 (zq (.t 7) (zc 1)),zm 10 11]
def qbi1:IC:=zr [zm 12 3,zv 13 (.bin .add .no (.t 12) (.c (.str [32,61,62,32]))),zm 2 13]
def qbik:IC:=zr [zm 14 3,zv 15 (.bin .add .no (.c (.str [40])) (.t 14)),zv 16 (.bin .add .no (.t 15) (.c (.str [41,32,61,62,32]))),zm 2 16]
def k0y:IC:=(.seq qbjy (.seq qbio (.seq (.seq qbfx (.block 0 (.seq qbhc (.cond (.t 8) (.seq qbf5 .ret) (.seq qbhl (.cond (.t 10) (.seq qbi1 .ret) .skip)))))) (.seq qbik .ret))))
@[go_sem] def s0y:List (RV×Co):=[(.t 2,.id)]
theorem c0y:cFun Tryz.prog 74 = some (17,k0y,s0y):=by kernel_rfl

def q1e:IC:=zr [zi 1 (.box (.t 0)),zv 2 zf]
def q2a:IC:=zr [zv 3 (zd 1 0),zv 4 (zg 1 3)]
def q35:IC:=zr [zv 6 (zq (.t 4) (zc 31)),zm 5 6]
def qbcw:IC:=zr [zv 7 (zl 5 1),zi 8 (zk 120 [zA 7]),zm 2 8]
def q9s:IC:=zr [zv 10 (zq (.t 4) (zc 32)),zm 9 10]
def q9j:IC:=zr [zv 11 (zl 5 1),zi 12 (zk 121 [zA 11]),zm 2 12]
def qbdv:IC:=zr [zv 14 (zq (.t 4) (zc 33)),zm 13 14]
def q77:IC:=zr [zv 15 (zl 5 1),zi 16 (zk 122 [zA 15]),zm 2 16]
def q9i:IC:=zr [zv 18 (zq (.t 4) (zc 35)),zm 17 18]
def q6g:IC:=zr [zv 19 (zq (.t 4) (zc 36)),zm 17 19]
def qzg:IC:=zr [zv 20 (zl 5 1),zi 21 (zk 123 [zA 20]),zm 2 21]
def qu5:IC:=zr [zv 2 zf]
def k0dz:IC:=(.seq q1e (.seq (.seq q2a (.block 0 (.seq q35 (.cond (.t 5) (.seq qbcw .ret) (.seq q9s (.cond (.t 9) (.seq q9j .ret) (.seq qbdv (.cond (.t 13) (.seq q77 .ret) (.seq (.seq q9i (.cond (.t 17) .skip q6g)) (.cond (.t 17) (.seq qzg .ret) .skip)))))))))) (.seq qu5 .ret)))
@[go_sem] def s0dz:List (RV×Co):=[(.t 2,.id)]
theorem c0dz:cFun Tryz.prog 75 = some (22,k0dz,s0dz):=by kernel_rfl

def q7w:IC:=zr [zv 2 (.mov (.c (.str [])))]
def q73:IC:=zr [zm 5 0,zv 6 (.len false (.t 5)),zv 7 (zq (.t 6) (zc 0))]
def q7q:IC:=zr [zv 2 (.mov (.c (.str [])))]
def qbcz:IC:=zr [zv 3 (.mov (.c (.str [])))]
def q08:IC:=zr [zv 4 (.mov (zc 0))]
def qbag:IC:=zr [zm 8 4,zm 9 0,zv 10 (.len false (.t 9)),zv 11 (.bin .lss .no (.t 8) (.t 10))]
def qbar:IC:=zr [zm 14 4,zv 15 (.bin .gtr .no (.t 14) (zc 0))]
def q75:IC:=zr [zm 16 3,zv 17 (.bin .add .no (.t 16) (.c (.str [44,32]))),zm 3 17]
def q81:IC:=.drw [zp (zm 18 3),zp (zm 19 0),zp (zm 20 4),zp (zv 21 (.iad 5 (.t 19) (.t 20))),zp (zv 22 (zd 21 3)),zp (zv 23 (zg 1 22)),(zv 24 (.bin .add .no (.t 23) (.c (.str [32]))),[]),zp (zm 25 0),zp (zm 26 4),zp (zv 27 (.iad 5 (.t 25) (.t 26))),zp (zv 28 (zd 27 4)),zp (zv 29 (zg 1 28)),zp (zv 30 (.iad 5 (.t 29) (zc 0))),zp (zv 31 (zl 5 30)),(zi 32 (zk 73 [zA 31]),[5]),zp (zv 33 (.bin .add .no (.t 24) (.t 32))),zp (zv 34 (.bin .add .no (.t 18) (.t 33))),zp (zm 3 34)]
def qx7:IC:=zr [zm 12 4,zv 13 (.bin .add .no (.t 12) (zc 1)),zm 4 13]
def q65:IC:=(.seq (.seq qbag (.cond (.t 11) .skip (.exit 0))) (.seq (.block 1 (.seq (.seq qbar (.cond (.t 15) q75 .skip)) q81)) qx7))
def qwu:IC:=zr [zm 35 0,zv 36 (.len false (.t 35)),zv 37 (.bin .gtr .no (.t 36) (zc 1))]
def qwl:IC:=zr [zm 38 3,zv 39 (.bin .add .no (.c (.str [40])) (.t 38)),zv 40 (.bin .add .no (.t 39) (.c (.str [41]))),zm 3 40]
def qwk:IC:=zr [zm 41 3,zv 42 (.bin .add .no (.t 41) (.c (.str [32,61,62,32]))),zm 2 42]
def k0dw:IC:=(.seq q7w (.seq (.seq q73 (.cond (.t 7) (.seq q7q .ret) .skip)) (.seq qbcz (.seq (.seq q08 (.block 0 (.loop q65))) (.seq (.seq qwu (.cond (.t 37) qwl .skip)) (.seq qwk .ret))))))
@[go_sem] def s0dw:List (RV×Co):=[(.t 2,.id)]
theorem c0dw:cFun Tryz.prog 76 = some (43,k0dw,s0dw):=by kernel_rfl

def q88:IC:=zr [zi 1 (.box (.t 0)),zv 2 zf]
def qbex:IC:=zr [zv 4 (zd 1 0),zv 5 (zg 1 4)]
def q0q:IC:=zr [zv 7 (zq (.t 5) (zc 11)),zm 6 7]
def q4l:IC:=zr [zv 8 (zd 1 3),zv 9 (zg 1 8),zi 10 (zk 113 [zI 9]),zm 11 10,zw 11 true 12 (zl 5 1),zj 11 true 13 (zk 114 [zA 12,((zc 0),.id)]),zv 14 (.pick (.t 11) (.t 13) (.c (.bool false))),zm 2 14]
def q0u:IC:=zr [zv 16 (zq (.t 5) (zc 12)),zm 15 16]
def q2y:IC:=zr [zv 17 (zd 1 3),zv 18 (zg 1 17),zv 19 (zq (.t 18) (.c (.str []))),zm 20 19,zw 20 true 21 (zl 5 1),zj 20 true 22 (zk 114 [zA 21,((zc 0),.id)]),zv 23 (.pick (.t 20) (.t 22) (.c (.bool false))),zm 2 23]
def q39:IC:=zr [zv 25 (zq (.t 5) (zc 13)),zm 24 25]
def q0j:IC:=zr [zv 26 (zd 1 3),zv 27 (zg 1 26),zv 28 (zq (.t 27) (.c (.str []))),zm 29 28,zw 29 true 30 (zd 1 2),zw 29 true 31 (zg 1 30),zw 29 true 32 (.bin .geq .no (.t 31) (zc 0)),zv 33 (.pick (.t 29) (.t 32) (.c (.bool false))),zm 34 33,zw 34 true 35 (zd 1 4),zw 34 true 36 (zg 1 35),zw 34 true 37 (.len false (.t 36)),zw 34 true 38 (zq (.t 37) (zc 0)),zv 39 (.pick (.t 34) (.t 38) (.c (.bool false))),zm 2 39]
def q38:IC:=zr [zv 41 (zq (.t 5) (zc 14)),zm 40 41]
def qbaq:IC:=zr [zv 3 (.mov (zc 0))]
def qy0:IC:=zr [zm 42 3,zv 43 (zd 1 4),zv 44 (zg 1 43),zv 45 (.len false (.t 44)),zv 46 (.bin .lss .no (.t 42) (.t 45))]
def qxf:IC:=zr [zv 49 (zd 1 4),zv 50 (zg 1 49),zm 51 3,zv 52 (.iad 5 (.t 50) (.t 51)),zv 53 (zl 5 52),zi 54 (zk 77 [zA 53]),zv 55 (.un .not (.t 54))]
def qxo:IC:=zr [zv 2 zf]
def qy8:IC:=zr [zm 47 3,zv 48 (.bin .add .no (.t 47) (zc 1)),zm 3 48]
def qw8:IC:=(.seq (.seq qy0 (.cond (.t 46) .skip (.exit 1))) (.seq (.block 2 (.seq qxf (.cond (.t 55) (.seq qxo .ret) .skip))) qy8))
def qwr:IC:=zr [zv 56 (zd 1 3),zv 57 (zg 1 56),zi 58 (zk 115 [zI 57]),zm 59 58,zw 59 true 60 (zd 1 2),zw 59 true 61 (zg 1 60),zw 59 true 62 (zq (.t 61) (zc 0)),zv 63 (.pick (.t 59) (.t 62) (.c (.bool false))),zm 2 63]
def qyd:IC:=zr [zv 2 zf]
def k0bx:IC:=(.seq q88 (.seq (.seq qbex (.block 0 (.seq q0q (.cond (.t 6) (.seq q4l .ret) (.seq q0u (.cond (.t 15) (.seq q2y .ret) (.seq q39 (.cond (.t 24) (.seq q0j .ret) (.seq q38 (.cond (.t 40) (.seq (.seq qbaq (.block 1 (.loop qw8))) (.seq qwr .ret)) .skip)))))))))) (.seq qyd .ret)))
@[go_sem] def s0bx:List (RV×Co):=[(.t 2,.id)]
theorem c0bx:cFun Tryz.prog 77 = some (64,k0bx,s0bx):=by kernel_rfl

def qbbp:IC:=zr [zv 2 (.mov (.c (.str [])))]
def qbbv:IC:=zr [zm 5 0,zi 6 (zk 124 [zI 5]),zm 3 6]
def qbdb:IC:=zr [zv 4 (.mov (.c (.str [])))]
def q14:IC:=zr [zm 7 3,zv 8 (.bin .gtr .no (.t 7) (.c (.int .u64 9)))]
def q94:IC:=zr [zm 9 3,zv 10 (.bin .rem .no (.t 9) (.c (.int .u64 10))),zv 11 (.bin .add .no (.c (.int .u64 48)) (.t 10)),zv 12 (.cvi .u8 (.t 11)),zv 13 (.bsl 1 [zI 12]),zv 14 (.cbs (.t 13)),zm 15 4,zv 16 (.bin .add .no (.t 14) (.t 15)),zm 4 16]
def q9p:IC:=zr [zm 17 3,zv 18 (.bin .quo .no (.t 17) (.c (.int .u64 10))),zm 3 18]
def q98:IC:=(.seq (.seq q14 (.cond (.t 8) .skip (.exit 0))) (.block 1 (.seq q94 q9p)))
def qbbl:IC:=zr [zm 19 3,zv 20 (.bin .add .no (.c (.int .u64 48)) (.t 19)),zv 21 (.cvi .u8 (.t 20)),zv 22 (.bsl 1 [zI 21]),zv 23 (.cbs (.t 22)),zm 24 4,zv 25 (.bin .add .no (.t 23) (.t 24)),zm 4 25]
def q9a:IC:=zr [zm 26 0,zv 27 (.bin .lss .no (.t 26) (zc 0))]
def quf:IC:=zr [zm 28 4,zv 29 (.bin .add .no (.c (.str [45])) (.t 28)),zm 2 29]
def qw5:IC:=zr [zm 30 4,zm 2 30]
def k0dg:IC:=(.seq qbbp (.seq qbbv (.seq qbdb (.seq (.block 0 (.loop q98)) (.seq qbbl (.seq (.seq q9a (.cond (.t 27) (.seq quf .ret) .skip)) (.seq qw5 .ret)))))))
@[go_sem] def s0dg:List (RV×Co):=[(.t 2,.id)]
theorem c0dg:cFun Tryz.prog 78 = some (31,k0dg,s0dg):=by kernel_rfl

def q3q:IC:=zr [zi 1 (.box (.t 0)),zv 2 zf]
def q8i:IC:=zr [zv 3 (zd 1 0),zv 4 (zg 1 3)]
def q3r:IC:=zr [zv 6 (zq (.t 4) (zc 21)),zm 5 6]
def q04:IC:=zr [zv 7 (zd 1 3),zv 8 (zg 1 7),zi 9 (zk 113 [zI 8]),zm 10 9,zw 10 true 11 (zl 5 1),zj 10 true 12 (zk 114 [zA 11,((zc 0),.id)]),zv 13 (.pick (.t 10) (.t 12) (.c (.bool false))),zm 2 13]
def qbdq:IC:=zr [zv 15 (zq (.t 4) (zc 22)),zm 14 15]
def q60:IC:=zr [zv 16 (zd 1 3),zv 17 (zg 1 16),zi 18 (zk 115 [zI 17]),zm 19 18,zw 19 true 20 (zl 5 1),zj 19 true 21 (zk 114 [zA 20,((zc 0),.id)]),zv 22 (.pick (.t 19) (.t 21) (.c (.bool false))),zm 2 22]
def qbcq:IC:=zr [zv 24 (zq (.t 4) (zc 23)),zm 23 24]
def qbcu:IC:=zr [zv 25 (zd 1 3),zv 26 (zg 1 25),zv 27 (zq (.t 26) (.c (.str []))),zm 28 27,zw 28 true 29 (zd 1 2),zw 28 true 30 (zg 1 29),zw 28 true 31 (.bin .geq .no (.t 30) (zc 0)),zv 32 (.pick (.t 28) (.t 31) (.c (.bool false))),zm 33 32,zw 33 true 34 (zd 1 4),zw 33 true 35 (zg 1 34),zw 33 true 36 (.len false (.t 35)),zw 33 true 37 (zq (.t 36) (zc 0)),zv 38 (.pick (.t 33) (.t 37) (.c (.bool false))),zm 2 38]
def q53:IC:=zr [zv 40 (zq (.t 4) (zc 24)),zm 39 40]
def qbcf:IC:=zr [zv 41 (zl 5 1),zi 42 (zk 125 [zA 41,((zc 2),.id)]),zm 2 42]
def qxg:IC:=zr [zv 44 (zq (.t 4) (zc 25)),zm 43 44]
def qyt:IC:=zr [zv 45 (zd 1 3),zv 46 (zg 1 45),zi 47 (zk 113 [zI 46]),zm 48 47,zw 48 true 49 (zl 5 1),zj 48 true 50 (zk 114 [zA 49,((zc 1),.id)]),zv 51 (.pick (.t 48) (.t 50) (.c (.bool false))),zm 52 51,zw 52 true 53 (zd 1 4),zw 52 true 54 (zg 1 53),zw 52 true 55 (.iad 5 (.t 54) (zc 0)),zw 52 true 56 (zl 5 55),zj 52 true 57 (zk 79 [zA 56]),zv 58 (.pick (.t 52) (.t 57) (.c (.bool false))),zm 2 58]
def qzi:IC:=zr [zv 60 (zq (.t 4) (zc 26)),zm 59 60]
def qt6:IC:=zr [zv 61 (zl 5 1),zi 62 (zk 126 [zA 61]),zm 2 62]
def qyh:IC:=zr [zv 64 (zq (.t 4) (zc 27)),zm 63 64]
def qvx:IC:=zr [zv 65 (zl 5 1),zi 66 (zk 127 [zA 65]),zm 2 66]
def qxi:IC:=zr [zv 68 (zq (.t 4) (zc 28)),zm 67 68]
def qun:IC:=zr [zv 69 (zl 5 1),zi 70 (zk 125 [zA 69,((zc 3),.id)]),zm 2 70]
def qvl:IC:=zr [zv 2 zf]
def k0bo:IC:=(.seq q3q (.seq (.seq q8i (.block 0 (.seq q3r (.cond (.t 5) (.seq q04 .ret) (.seq qbdq (.cond (.t 14) (.seq q60 .ret) (.seq qbcq (.cond (.t 23) (.seq qbcu .ret) (.seq q53 (.cond (.t 39) (.seq qbcf .ret) (.seq qxg (.cond (.t 43) (.seq qyt .ret) (.seq qzi (.cond (.t 59) (.seq qt6 .ret) (.seq qyh (.cond (.t 63) (.seq qvx .ret) (.seq qxi (.cond (.t 67) (.seq qun .ret) .skip)))))))))))))))))) (.seq qvl .ret)))
@[go_sem] def s0bo:List (RV×Co):=[(.t 2,.id)]
theorem c0bo:cFun Tryz.prog 79 = some (71,k0bo,s0bo):=by kernel_rfl

def q6k:IC:=zr [zi 2 (.box (.t 0)),zv 4 (.mov (.c (.str [])))]
def q79:IC:=zr [zm 5 1]
def q42:IC:=zr [zv 6 (zl 5 2),zi 7 (zk 42 [zA 6]),zm 4 7]
def q9u:IC:=zr [zv 8 (zl 5 2),zi 9 (zk 42 [zA 8]),zv 10 (.bin .add .no (.c (.str [40])) (.t 9)),zv 11 (.bin .add .no (.t 10) (.c (.str [41]))),zm 4 11]
def k0ds:IC:=(.seq q6k (.seq (.seq q79 (.cond (.t 5) (.seq q42 .ret) .skip)) (.seq q9u .ret)))
@[go_sem] def s0ds:List (RV×Co):=[(.t 4,.id)]
theorem c0ds:cFun Tryz.prog 80 = some (12,k0ds,s0ds):=by kernel_rfl

def q1y:IC:=zr [zi 1 (.box (.t 0)),zv 2 zf]
def q3y:IC:=zr [zv 3 (zd 1 0),zv 4 (zg 1 3),zv 5 (zq (.t 4) (zc 21)),zm 6 5,zw 6 false 7 (zd 1 0),zw 6 false 8 (zg 1 7),zw 6 false 9 (zq (.t 8) (zc 22)),zv 10 (.pick (.t 6) (.c (.bool true)) (.t 9)),zm 11 10,zw 11 false 12 (zd 1 0),zw 11 false 13 (zg 1 12),zw 11 false 14 (zq (.t 13) (zc 23)),zv 15 (.pick (.t 11) (.c (.bool true)) (.t 14)),zm 2 15]
def k0dr:IC:=(.seq q1y (.seq q3y .ret))
@[go_sem] def s0dr:List (RV×Co):=[(.t 2,.id)]
theorem c0dr:cFun Tryz.prog 81 = some (16,k0dr,s0dr):=by kernel_rfl

def q68:IC:=zr [zv 2 (.mov (.c (.str [])))]
def q2m:IC:=zr [zm 5 0,zv 6 (.len false (.t 5)),zv 7 (zq (.t 6) (zc 0))]
def qbbi:IC:=zr [zv 2 (.mov (.c (.str [123,32,125])))]
def q87:IC:=zr [zv 3 (.mov (.c (.str [])))]
def qbd3:IC:=zr [zv 4 (.mov (zc 0))]
def q8c:IC:=zr [zm 8 4,zm 9 0,zv 10 (.len false (.t 9)),zv 11 (.bin .lss .no (.t 8) (.t 10))]
def q5m:IC:=zr [zm 14 4,zv 15 (.bin .gtr .no (.t 14) (zc 0))]
def q34:IC:=zr [zm 16 3,zv 17 (.bin .add .no (.t 16) (.c (.str [59,32]))),zm 3 17]
def q05:IC:=zr [zm 18 3,zm 19 0,zm 20 4,zv 21 (.iad 5 (.t 19) (.t 20)),zv 22 (zl 5 21),zi 23 (zk 43 [zA 22]),zv 24 (.bin .add .no (.t 18) (.t 23)),zm 3 24]
def qut:IC:=zr [zm 12 4,zv 13 (.bin .add .no (.t 12) (zc 1)),zm 4 13]
def qbey:IC:=(.seq (.seq q8c (.cond (.t 11) .skip (.exit 0))) (.seq (.block 1 (.seq (.seq q5m (.cond (.t 15) q34 .skip)) q05)) qut))
def qy4:IC:=zr [zm 25 3,zv 26 (.bin .add .no (.c (.str [123,32])) (.t 25)),zv 27 (.bin .add .no (.t 26) (.c (.str [32,125]))),zm 2 27]
def k0dt:IC:=(.seq q68 (.seq (.seq q2m (.cond (.t 7) (.seq qbbi .ret) .skip)) (.seq q87 (.seq (.seq qbd3 (.block 0 (.loop qbey))) (.seq qy4 .ret)))))
@[go_sem] def s0dt:List (RV×Co):=[(.t 2,.id)]
theorem c0dt:cFun Tryz.prog 82 = some (28,k0dt,s0dt):=by kernel_rfl

def qbgi:IC:=zr [zi 1 (.box (.t 0)),zv 2 (.mov (.c (.str [])))]
def qbg4:IC:=zr [zv 4 (zd 1 0),zv 5 (zl 5 4),zi 3 zaN,zn (.st 5 zN (.t 3) (.t 5))]
def qbgr:IC:=zr [zv 6 (zd 3 0),zv 7 (zg 1 6),zv 8 (.bin .neq .no (.t 7) (zc 1)),zm 9 8,zw 9 true 10 (zd 3 3),zw 9 true 11 (zg 1 10),zw 9 true 12 (zq (.t 11) (.c (.str [45,62]))),zv 13 (.pick (.t 9) (.t 12) (.c (.bool false)))]
def qbga:IC:=.drw [zp (zv 14 (zd 3 4)),zp (zv 15 (zg 1 14)),zp (zv 16 (.iad 5 (.t 15) (zc 0))),zp (zv 17 (zl 5 16)),(zv 18 (.bld [(.int .i64 0),(.int .i64 0),(.int .i64 0),(.str []),.nils] [(0,5,(.t 17))]),[]),(zv 19 (.mki 37 (.t 18) zN),[]),zp (zv 20 (zd 3 4)),zp (zv 21 (zg 1 20)),zp (zv 22 (.iad 5 (.t 21) (zc 0))),zp (zv 23 (zd 22 3)),zp (zv 24 (zg 1 23)),(zv 25 (.bin .neq .no (.t 24) (.c (.str [45,62]))),[]),(zi 26 (zk 131 [zI 19,zI 25]),[]),(zv 27 (.bin .add .no (.t 26) (.c (.str [32,45,62,32]))),[]),zp (zv 28 (zd 3 4)),(zv 29 (zg 1 28),[12]),zp (zv 30 (.iad 5 (.t 29) (zc 1))),(zv 31 (zl 5 30),[12]),(zv 32 (.bld [(.int .i64 0),(.int .i64 0),(.int .i64 0),(.str []),.nils] [(0,5,(.t 31))]),[]),(zv 33 (.mki 37 (.t 32) zN),[12]),(zi 34 (zk 46 [zI 33]),[]),zp (zv 35 (.bin .add .no (.t 27) (.t 34))),zp (zm 2 35)]
def qbiu:IC:=.drw [zp (zv 36 (zd 3 3)),zp (zv 37 (zg 1 36)),zp (zv 38 (zd 3 4)),zp (zv 39 (zg 1 38)),(zi 40 (zk 44 [((.t 39),(.sl 5)),((.c (.str [])),.id),((.c (.fn 119 [] [])),.id)]),[1]),zp (zv 41 (.bin .add .no (.t 37) (.t 40))),zp (zm 2 41)]
def k0w:IC:=(.seq qbgi (.seq qbg4 (.seq (.seq qbgr (.cond (.t 13) (.seq qbga .ret) .skip)) (.seq qbiu .ret))))
@[go_sem] def s0w:List (RV×Co):=[(.t 2,.id)]
theorem c0w:cFun Tryz.prog 84 = some (42,k0w,s0w):=by kernel_rfl

def q95:IC:=zr [zi 1 (.box (.t 0)),zv 2 (.mov (.c (.str [])))]
def qbb3:IC:=zr [zv 3 (zd 1 0),zv 4 (zd 3 0),zv 5 (zg 1 4)]
def qbdm:IC:=zr [zv 7 (zq (.t 5) (zc 12)),zm 6 7]
def qba5:IC:=zr [zv 2 (.mov (.c (.str [95])))]
def qbeh:IC:=zr [zv 9 (zq (.t 5) (zc 13)),zm 8 9]
def qban:IC:=zr [zv 10 (zd 1 0),zv 11 (zd 10 2),zv 12 (zg 1 11),zi 13 (zk 132 [zI 12]),zm 2 13]
def qbcs:IC:=.drw [zp (zv 14 (zd 1 0)),zp (zv 15 (zd 14 3)),zp (zv 16 (zg 1 15)),zp (zv 17 (zd 1 0)),zp (zv 18 (zd 17 4)),zp (zv 19 (zg 1 18)),(zi 20 (zk 44 [((.t 19),(.sl 5)),((.c (.str [])),.id),((.c (.fn 133 [] [])),.id)]),[2]),zp (zv 21 (.bin .add .no (.t 16) (.t 20))),zp (zm 2 21)]
def k0bb:IC:=(.seq q95 (.seq (.seq qbb3 (.block 0 (.seq qbdm (.cond (.t 6) (.seq qba5 .ret) (.seq qbeh (.cond (.t 8) (.seq qban .ret) .skip)))))) (.seq qbcs .ret)))
@[go_sem] def s0bb:List (RV×Co):=[(.t 2,.id)]
theorem c0bb:cFun Tryz.prog 85 = some (22,k0bb,s0bb):=by kernel_rfl

def qbkp:IC:=zr [zi 1 (.box (.t 0)),zv 2 (.mov (.c (.str [])))]
def qbj6:IC:=.drw [zp (zv 8 (zd 1 0)),zp (zv 9 (zl 5 8)),zp (zv 10 (zd 1 0)),zp (zv 11 (zd 10 4)),zp (zv 12 (zg 1 11)),zp (zv 13 (.len false (.t 12))),zp (zv 14 (.bin .sub .no (.t 13) (zc 1))),(zi 3 zaN,[1,4]),(zn (.st 5 zN (.t 3) (.t 9)),[4]),zp (zm 4 14)]
def qbf2:IC:=zr [zv 15 (.mfn 135 [] [(.t 3)]),zm 5 15]
def qbfk:IC:=zr [zv 16 (zd 3 0),zv 17 (zg 1 16)]
def qbfs:IC:=zr [zv 19 (zq (.t 17) (zc 23)),zm 18 19]
def qbhn:IC:=zr [zv 20 (zd 3 2),zv 21 (zg 1 20),zi 22 (zk 132 [zI 21]),zm 2 22]
def qbhb:IC:=zr [zv 24 (zq (.t 17) (zc 24)),zm 23 24]
def qle:IC:=.drw [zp (zv 25 (zd 3 4)),zp (zv 26 (zg 1 25)),zp (zv 27 (.iad 5 (.t 26) (zc 0))),zp (zv 28 (zl 5 27)),zp (zv 29 (zd 3 4)),zp (zv 30 (zg 1 29)),zp (zv 31 (.iad 5 (.t 30) (zc 1))),zp (zv 32 (zl 5 31)),(zi 6 zaN,[1,3,5,7]),(zi 7 zaN,[1,3,5,7,8]),(zn (.st 5 zN (.t 6) (.t 28)),[5,7]),(zn (.st 5 zN (.t 7) (.t 32)),[])]
def qbje:IC:=.drw [zp (zv 33 (zl 5 6)),(zv 34 (.bld [(.int .i64 0),(.int .i64 0),(.int .i64 0),(.str []),.nils] [(0,5,(.t 33))]),[]),(zv 35 (.mki 39 (.t 34) zN),[]),zp (zv 36 (zl 5 6)),(zi 37 (zk 134 [zA 36]),[0,2]),zp (zm 38 37),zp (zw 38 false 39 (zd 6 0)),zp (zw 38 false 40 (zg 1 39)),zp (zw 38 false 41 (zq (.t 40) (zc 24))),zp (zv 42 (.pick (.t 38) (.c (.bool true)) (.t 41))),(zi 43 (zk 131 [zI 35,zI 42]),[]),(zv 44 (.bin .add .no (.t 43) (.c (.str [32]))),[]),(zv 45 (zl 5 7),[4,10]),(zv 46 (.bld [(.int .i64 0),(.int .i64 0),(.int .i64 0),(.str []),.nils] [(0,5,(.t 45))]),[]),(zv 47 (.mki 39 (.t 46) zN),[4,10]),(zv 48 (zl 5 7),[4,10]),(zi 49 (zk 134 [zA 48]),[12,14]),(zi 50 (zk 131 [zI 47,zI 49]),[]),zp (zv 51 (.bin .add .no (.t 44) (.t 50))),zp (zm 2 51)]
def qbjv:IC:=zr [zv 53 (zq (.t 17) (zc 25)),zm 52 53]
def q51:IC:=.drw [zp (zv 54 (zd 3 3)),zp (zv 55 (zg 1 54)),(zv 56 (.bin .add .no (.c (.str [92,32])) (.t 55)),[]),(zv 57 (.bin .add .no (.t 56) (.c (.str [32,45,62,32]))),[]),zp (zm 58 5),(zi 59 (.call (.t 58) [((zc 0),.id)]),[1]),zp (zv 60 (.bin .add .no (.t 57) (.t 59))),zp (zm 2 60)]
def q7c:IC:=zr [zv 62 (zq (.t 17) (zc 26)),zm 61 62]
def q8k:IC:=zr [zv 63 (zd 3 4),zv 64 (zg 1 63),zm 65 4,zv 66 (.slv 5 (.t 64) none (some (.t 65)) none),zi 67 (zk 136 [((.t 66),(.sl 5))]),zv 68 (.bin .add .no (.c (.str [108,101,116,32])) (.t 67)),zv 69 (.bin .add .no (.t 68) (.c (.str [32,105,110,32]))),zm 70 5,zm 71 4,zi 72 (.call (.t 70) [zI 71]),zv 73 (.bin .add .no (.t 69) (.t 72)),zm 2 73]
def q06:IC:=zr [zv 75 (zq (.t 17) (zc 27)),zm 74 75]
def qbc3:IC:=.drw [zp (zm 76 5),(zi 77 (.call (.t 76) [((zc 0),.id)]),[]),(zv 78 (.bin .add .no (.c (.str [99,97,115,101,32])) (.t 77)),[]),(zv 79 (.bin .add .no (.t 78) (.c (.str [32,111,102,32]))),[]),zp (zv 80 (zd 3 4)),(zv 81 (zg 1 80),[1]),(zv 82 (.slv 5 (.t 81) (some (zc 1)) none none),[1]),(zi 83 (zk 44 [((.t 82),(.sl 5)),((.c (.str [59,32])),.id),((.c (.fn 138 [] [])),.id)]),[]),(zi 84 (zk 137 [zI 83]),[]),zp (zv 85 (.bin .add .no (.t 79) (.t 84))),zp (zm 2 85)]
def qbbg:IC:=zr [zv 87 (zq (.t 17) (zc 28)),zm 86 87]
def q6d:IC:=zr [zm 88 5,zi 89 (.call (.t 88) [((zc 0),.id)]),zv 90 (.bin .add .no (.c (.str [105,102,32])) (.t 89)),zv 91 (.bin .add .no (.t 90) (.c (.str [32,116,104,101,110,32]))),zm 92 5,zi 93 (.call (.t 92) [((zc 1),.id)]),zv 94 (.bin .add .no (.t 91) (.t 93)),zv 95 (.bin .add .no (.t 94) (.c (.str [32,101,108,115,101,32]))),zm 96 5,zi 97 (.call (.t 96) [((zc 2),.id)]),zv 98 (.bin .add .no (.t 95) (.t 97)),zm 2 98]
def q31:IC:=zr [zv 99 (zd 3 3),zv 100 (zg 1 99),zm 2 100]
def k0l:IC:=(.seq qbkp (.seq qbj6 (.seq qbf2 (.seq (.seq qbfk (.block 0 (.seq qbfs (.cond (.t 18) (.seq qbhn .ret) (.seq qbhb (.cond (.t 23) (.seq qle (.seq qbje .ret)) (.seq qbjv (.cond (.t 52) (.seq q51 .ret) (.seq q7c (.cond (.t 61) (.seq q8k .ret) (.seq q06 (.cond (.t 74) (.seq qbc3 .ret) (.seq qbbg (.cond (.t 86) (.seq q6d .ret) .skip)))))))))))))) (.seq q31 .ret)))))
@[go_sem] def s0l:List (RV×Co):=[(.t 2,.id)]
theorem c0l:cFun Tryz.prog 86 = some (101,k0l,s0l):=by kernel_rfl

def qbfq:IC:=zr [zi 1 (.box (.t 0)),zv 2 (.mov (.c (.str [])))]
def qbhh:IC:=zr [zv 7 (zd 1 0),zv 8 (zl 5 7),zi 3 zaN,zn (.st 5 zN (.t 3) (.t 8))]
def qbfn:IC:=zr [zv 9 (zd 3 0),zv 10 (zg 1 9)]
def qbi8:IC:=zr [zv 12 (zq (.t 10) (zc 31)),zm 11 12]
def qbjo:IC:=.drw [zp (zv 13 (zd 3 3)),zp (zv 14 (zg 1 13)),(zv 15 (.bin .add .no (.t 14) (.c (.str [32,61,32]))),[]),zp (zv 16 (zd 3 4)),zp (zv 17 (zg 1 16)),zp (zv 18 (.iad 5 (.t 17) (zc 0))),zp (zv 19 (zl 5 18)),(zv 20 (.bld [(.int .i64 0),(.int .i64 0),(.int .i64 0),(.str []),.nils] [(0,5,(.t 19))]),[]),(zv 21 (.mki 39 (.t 20) zN),[]),(zi 22 (zk 46 [zI 21]),[1]),zp (zv 23 (.bin .add .no (.t 15) (.t 22))),zp (zm 2 23)]
def qbgn:IC:=zr [zv 25 (zq (.t 10) (zc 32)),zm 24 25]
def qbhe:IC:=.drw [zp (zv 26 (zd 3 3)),zp (zv 27 (zg 1 26)),(zv 28 (.bin .add .no (.t 27) (.c (.str [32,58,58,32]))),[]),zp (zv 29 (zd 3 4)),zp (zv 30 (zg 1 29)),zp (zv 31 (.iad 5 (.t 30) (zc 0))),zp (zv 32 (zl 5 31)),(zi 33 (zk 36 [zA 32]),[1]),zp (zv 34 (.bin .add .no (.t 28) (.t 33))),zp (zm 2 34)]
def qbgz:IC:=.drw [zp (zv 35 (zd 3 4)),zp (zv 36 (zg 1 35)),zp (zv 37 (zd 3 2)),zp (zv 38 (zg 1 37)),zp (zv 39 (.slv 5 (.t 36) none (some (.t 38)) none)),zp (zv 40 (zd 3 4)),zp (zv 41 (zg 1 40)),zp (zv 42 (zd 3 2)),zp (zv 43 (zg 1 42)),zp (zv 44 (.slv 5 (.t 41) (some (.t 43)) none none)),zp (zm 4 39),zp (zm 5 44)]
def qbiz:IC:=zr [zv 45 (zd 3 0),zv 46 (zg 1 45)]
def qbj9:IC:=zr [zv 48 (zq (.t 46) (zc 33)),zm 47 48]
def qbc1:IC:=zr [zm 49 5,zi 50 (zk 44 [((.t 49),(.sl 5)),((.c (.str [32,124,32])),.id),((.c (.fn 139 [] [])),.id)]),zm 6 50]
def q3v:IC:=.drw [zp (zv 51 (zd 3 3)),zp (zv 52 (zg 1 51)),(zv 53 (.bin .add .no (.c (.str [100,97,116,97,32])) (.t 52)),[]),zp (zm 54 4),(zi 55 (zk 44 [((.t 54),(.sl 5)),((.c (.str [])),.id),((.c (.fn 119 [] [])),.id)]),[1]),zp (zv 56 (.bin .add .no (.t 53) (.t 55))),(zv 57 (.bin .add .no (.t 56) (.c (.str [32,61,32]))),[]),zp (zm 58 6),zp (zv 59 (.bin .add .no (.t 57) (.t 58))),zp (zm 2 59)]
def q2t:IC:=zr [zv 61 (zq (.t 46) (zc 35)),zm 60 61]
def qbb8:IC:=.drw [zp (zm 62 4),(zi 63 (zk 74 [((.t 62),(.sl 5))]),[]),(zv 64 (.bin .add .no (.c (.str [99,108,97,115,115,32])) (.t 63)),[]),zp (zv 65 (zd 3 3)),(zv 66 (zg 1 65),[1]),zp (zv 67 (.bin .add .no (.t 64) (.t 66))),zp (zm 68 5),zp (zv 69 (.iad 5 (.t 68) (zc 0))),(zv 70 (zl 5 69),[1]),(zi 71 (zk 119 [zA 70]),[4]),zp (zv 72 (.bin .add .no (.t 67) (.t 71))),(zv 73 (.bin .add .no (.t 72) (.c (.str [32,119,104,101,114,101,32]))),[]),zp (zm 74 5),(zv 75 (.slv 5 (.t 74) (some (zc 1)) none none),[1,9]),(zi 76 (zk 136 [((.t 75),(.sl 5))]),[4]),zp (zv 77 (.bin .add .no (.t 73) (.t 76))),zp (zm 2 77)]
def q3n:IC:=.drw [zp (zm 78 4),(zi 79 (zk 74 [((.t 78),(.sl 5))]),[]),(zv 80 (.bin .add .no (.c (.str [105,110,115,116,97,110,99,101,32])) (.t 79)),[]),zp (zv 81 (zd 3 3)),(zv 82 (zg 1 81),[1]),zp (zv 83 (.bin .add .no (.t 80) (.t 82))),zp (zm 84 5),zp (zv 85 (.iad 5 (.t 84) (zc 0))),(zv 86 (zl 5 85),[1]),(zi 87 (zk 119 [zA 86]),[4]),zp (zv 88 (.bin .add .no (.t 83) (.t 87))),(zv 89 (.bin .add .no (.t 88) (.c (.str [32,119,104,101,114,101,32]))),[]),zp (zm 90 5),(zv 91 (.slv 5 (.t 90) (some (zc 1)) none none),[1,9]),(zi 92 (zk 136 [((.t 91),(.sl 5))]),[4]),zp (zv 93 (.bin .add .no (.t 89) (.t 92))),zp (zm 2 93)]
def k0j:IC:=(.seq qbfq (.seq qbhh (.seq (.seq qbfn (.block 0 (.seq qbi8 (.cond (.t 11) (.seq qbjo .ret) (.seq qbgn (.cond (.t 24) (.seq qbhe .ret) .skip)))))) (.seq qbgz (.seq (.seq qbiz (.block 1 (.seq qbj9 (.cond (.t 47) (.seq qbc1 (.seq q3v .ret)) (.seq q2t (.cond (.t 60) (.seq qbb8 .ret) .skip)))))) (.seq q3n .ret))))))
@[go_sem] def s0j:List (RV×Co):=[(.t 2,.id)]
theorem c0j:cFun Tryz.prog 87 = some (94,k0j,s0j):=by kernel_rfl

def q26:IC:=zr [zi 2 (.box (.t 0)),zi 3 (.box (.t 1)),zv 4 (.mov (.c .nilf))]
def qbaw:IC:=zr [zv 5 (.mfn 140 [] [(.t 2),(.t 3)]),zm 4 5]
def k0cn:IC:=(.seq q26 (.seq qbaw .ret))
@[go_sem] def s0cn:List (RV×Co):=[(.t 4,.id)]
theorem c0cn:cFun Tryz.prog 88 = some (6,k0cn,s0cn):=by kernel_rfl

def q16:IC:=zr [zi 2 (.box (.t 0)),zv 4 zf]
def qbem:IC:=zr [zv 5 (zd 2 2),zv 6 (zg 1 5),zv 7 (zq (.t 6) (zc 0)),zm 8 7,zw 8 true 9 (zo 1),zw 8 true 10 (zd 2 3),zw 8 true 11 (zg 1 10),zj 8 true 12 (.call (.t 9) [zI 11]),zv 13 (.pick (.t 8) (.t 12) (.c (.bool false))),zm 4 13]
def k0cg:IC:=(.seq q16 (.seq qbem .ret))
@[go_sem] def s0cg:List (RV×Co):=[(.t 4,.id)]
theorem c0cg:cFun Tryz.prog 89 = some (14,k0cg,s0cg):=by kernel_rfl

def q4a:IC:=zr [zv 2 zf]
def q5z:IC:=zr [zm 3 0,zv 4 (.bin .neq .no (.t 3) (.c (.str []))),zm 5 4,zw 5 true 6 (zo 0),zw 5 true 7 (.bin .neq .no (.t 6) (.c (.str [95]))),zv 8 (.pick (.t 5) (.t 7) (.c (.bool false))),zm 9 8,zw 9 true 10 (zo 0),zw 9 true 11 (.idx (.t 10) (zc 0)),zj 9 true 12 (zk 142 [zI 11]),zv 13 (.pick (.t 9) (.t 12) (.c (.bool false))),zm 14 13,zw 14 true 15 (zo 0),zj 14 true 16 (zk 143 [zI 15]),zv 17 (.pick (.t 14) (.t 16) (.c (.bool false))),zm 18 17,zw 18 true 19 (zo 0),zj 18 true 20 (zk 144 [zI 19]),zw 18 true 21 (.un .not (.t 20)),zv 22 (.pick (.t 18) (.t 21) (.c (.bool false))),zm 2 22]
def k0dd:IC:=(.seq q4a (.seq q5z .ret))
@[go_sem] def s0dd:List (RV×Co):=[(.t 2,.id)]
theorem c0dd:cFun Tryz.prog 90 = some (23,k0dd,s0dd):=by kernel_rfl

def q5g:IC:=zr [zv 2 zf]
def q2w:IC:=zr [zm 3 0,zv 4 (.bin .neq .no (.t 3) (.c (.str []))),zm 5 4,zw 5 true 6 (zo 0),zw 5 true 7 (.idx (.t 6) (zc 0)),zj 5 true 8 (zk 145 [zI 7]),zv 9 (.pick (.t 5) (.t 8) (.c (.bool false))),zm 10 9,zw 10 true 11 (zo 0),zj 10 true 12 (zk 143 [zI 11]),zv 13 (.pick (.t 10) (.t 12) (.c (.bool false))),zm 2 13]
def k0db:IC:=(.seq q5g (.seq q2w .ret))
@[go_sem] def s0db:List (RV×Co):=[(.t 2,.id)]
theorem c0db:cFun Tryz.prog 91 = some (14,k0db,s0db):=by kernel_rfl

def q2b:IC:=zr [zi 1 (.box (.t 0)),zv 2 zf]
def q7e:IC:=zr [zv 3 (zl 5 1),zi 4 (zk 100 [zA 3]),zm 5 4,zw 5 false 6 (zl 5 1),zj 5 false 7 (zk 101 [zA 6]),zv 8 (.pick (.t 5) (.c (.bool true)) (.t 7)),zm 2 8]
def k0bp:IC:=(.seq q2b (.seq q7e .ret))
@[go_sem] def s0bp:List (RV×Co):=[(.t 2,.id)]
theorem c0bp:cFun Tryz.prog 99 = some (9,k0bp,s0bp):=by kernel_rfl

def q0v:IC:=zr [zi 1 (.box (.t 0)),zv 2 zf]
def qbat:IC:=zr [zv 3 (zd 1 0),zv 4 (zg 1 3),zv 5 (zq (.t 4) (zc 31)),zm 6 5,zw 6 true 7 (zl 5 1),zj 6 true 8 (zk 89 [zA 7,((.c (.fn 90 [] [])),.id)]),zv 9 (.pick (.t 6) (.t 8) (.c (.bool false))),zm 10 9,zw 10 true 11 (zd 1 4),zw 10 true 12 (zg 1 11),zw 10 true 13 (.len false (.t 12)),zw 10 true 14 (zq (.t 13) (zc 1)),zv 15 (.pick (.t 10) (.t 14) (.c (.bool false))),zm 16 15,zw 16 true 17 (zd 1 4),zw 16 true 18 (zg 1 17),zw 16 true 19 (.iad 5 (.t 18) (zc 0)),zw 16 true 20 (zl 5 19),zj 16 true 21 (zk 57 [zA 20]),zv 22 (.pick (.t 16) (.t 21) (.c (.bool false))),zm 2 22]
def k0br:IC:=(.seq q0v (.seq qbat .ret))
@[go_sem] def s0br:List (RV×Co):=[(.t 2,.id)]
theorem c0br:cFun Tryz.prog 100 = some (23,k0br,s0br):=by kernel_rfl

def q2d:IC:=zr [zi 1 (.box (.t 0)),zv 2 zf]
def q4b:IC:=zr [zv 3 (zd 1 0),zv 4 (zg 1 3),zv 5 (zq (.t 4) (zc 32)),zm 6 5,zw 6 true 7 (zl 5 1),zj 6 true 8 (zk 89 [zA 7,((.c (.fn 90 [] [])),.id)]),zv 9 (.pick (.t 6) (.t 8) (.c (.bool false))),zm 10 9,zw 10 true 11 (zd 1 4),zw 10 true 12 (zg 1 11),zw 10 true 13 (.len false (.t 12)),zw 10 true 14 (zq (.t 13) (zc 1)),zv 15 (.pick (.t 10) (.t 14) (.c (.bool false))),zm 16 15,zw 16 true 17 (zd 1 4),zw 16 true 18 (zg 1 17),zw 16 true 19 (.iad 5 (.t 18) (zc 0)),zw 16 true 20 (zl 5 19),zj 16 true 21 (zk 157 [zA 20]),zv 22 (.pick (.t 16) (.t 21) (.c (.bool false))),zm 2 22]
def k0cd:IC:=(.seq q2d (.seq q4b .ret))
@[go_sem] def s0cd:List (RV×Co):=[(.t 2,.id)]
theorem c0cd:cFun Tryz.prog 101 = some (23,k0cd,s0cd):=by kernel_rfl

def qbah:IC:=zr [zi 1 (.box (.t 0)),zv 2 zf]
def q4i:IC:=zr [zv 3 (zd 1 0),zv 4 (zg 1 3),zv 5 (zq (.t 4) (zc 15)),zm 6 5,zw 6 true 7 (zl 5 1),zj 6 true 8 (zk 67 [zA 7]),zv 9 (.pick (.t 6) (.t 8) (.c (.bool false))),zm 10 9,zw 10 true 11 (zd 1 4),zw 10 true 12 (zg 1 11),zw 10 true 13 (.len false (.t 12)),zw 10 true 14 (zq (.t 13) (zc 2)),zv 15 (.pick (.t 10) (.t 14) (.c (.bool false))),zm 16 15,zw 16 true 17 (zd 1 4),zw 16 true 18 (zg 1 17),zw 16 true 19 (.iad 5 (.t 18) (zc 0)),zw 16 true 20 (zl 5 19),zj 16 true 21 (zk 51 [zA 20]),zv 22 (.pick (.t 16) (.t 21) (.c (.bool false))),zm 23 22,zw 23 true 24 (zd 1 4),zw 23 true 25 (zg 1 24),zw 23 true 26 (.iad 5 (.t 25) (zc 1)),zw 23 true 27 (zl 5 26),zj 23 true 28 (zk 57 [zA 27]),zv 29 (.pick (.t 23) (.t 28) (.c (.bool false))),zm 2 29]
def k0bs:IC:=(.seq qbah (.seq q4i .ret))
@[go_sem] def s0bs:List (RV×Co):=[(.t 2,.id)]
theorem c0bs:cFun Tryz.prog 102 = some (30,k0bs,s0bs):=by kernel_rfl

def qbck:IC:=zr [zi 1 (.box (.t 0)),zv 2 zf]
def qbdo:IC:=zr [zv 3 (zd 1 0),zv 4 (zg 1 3),zv 5 (zq (.t 4) (zc 1)),zm 6 5,zw 6 true 7 (zl 5 1),zj 6 true 8 (zk 48 [zA 7]),zv 9 (.pick (.t 6) (.t 8) (.c (.bool false))),zm 2 9]
def k0bc:IC:=(.seq qbck (.seq qbdo .ret))
@[go_sem] def s0bc:List (RV×Co):=[(.t 2,.id)]
theorem c0bc:cFun Tryz.prog 110 = some (10,k0bc,s0bc):=by kernel_rfl

def qbbe:IC:=zr [zi 1 (.box (.t 0)),zv 2 zf]
def q5l:IC:=zr [zv 3 (zd 1 0),zv 4 (zg 1 3),zv 5 (zq (.t 4) (zc 34)),zm 6 5,zw 6 true 7 (zl 5 1),zj 6 true 8 (zk 89 [zA 7,((.c (.fn 91 [] [])),.id)]),zv 9 (.pick (.t 6) (.t 8) (.c (.bool false))),zm 10 9,zw 10 true 11 (zd 1 4),zw 10 true 12 (zg 1 11),zj 10 true 13 (zk 68 [((.t 12),(.sl 5)),((.c (.fn 48 [] [])),.id)]),zv 14 (.pick (.t 10) (.t 13) (.c (.bool false))),zm 2 14]
def k0bd:IC:=(.seq qbbe (.seq q5l .ret))
@[go_sem] def s0bd:List (RV×Co):=[(.t 2,.id)]
theorem c0bd:cFun Tryz.prog 111 = some (15,k0bd,s0bd):=by kernel_rfl

def q0t:IC:=zr [zi 1 (.box (.t 0)),zv 2 zf]
def q4j:IC:=zr [zv 3 (zd 1 0),zv 4 (zg 1 3),zv 5 (zq (.t 4) (zc 3)),zm 6 5,zw 6 true 7 (zl 5 1),zj 6 true 8 (zk 89 [zA 7,((.c (.fn 91 [] [])),.id)]),zv 9 (.pick (.t 6) (.t 8) (.c (.bool false))),zm 10 9,zw 10 true 11 (zd 1 4),zw 10 true 12 (zg 1 11),zw 10 true 13 (.len false (.t 12)),zw 10 true 14 (zq (.t 13) (zc 1)),zv 15 (.pick (.t 10) (.t 14) (.c (.bool false))),zm 16 15,zw 16 true 17 (zd 1 4),zw 16 true 18 (zg 1 17),zw 16 true 19 (.iad 5 (.t 18) (zc 0)),zw 16 true 20 (zl 5 19),zj 16 true 21 (zk 48 [zA 20]),zv 22 (.pick (.t 16) (.t 21) (.c (.bool false))),zm 2 22]
def k0by:IC:=(.seq q0t (.seq q4j .ret))
@[go_sem] def s0by:List (RV×Co):=[(.t 2,.id)]
theorem c0by:cFun Tryz.prog 112 = some (23,k0by,s0by):=by kernel_rfl

def q3o:IC:=zr [zv 2 zf]
def q7y:IC:=zr [zm 3 0,zv 4 (.bin .neq .no (.t 3) (.c (.str []))),zm 5 4,zw 5 true 6 (zo 0),zw 5 true 7 (.bin .neq .no (.t 6) (.c (.str [95]))),zv 8 (.pick (.t 5) (.t 7) (.c (.bool false))),zm 9 8,zw 9 true 10 (zo 0),zw 9 true 11 (.idx (.t 10) (zc 0)),zj 9 true 12 (zk 170 [zI 11]),zv 13 (.pick (.t 9) (.t 12) (.c (.bool false))),zm 14 13,zw 14 true 15 (zo 0),zj 14 true 16 (zk 171 [zI 15]),zv 17 (.pick (.t 14) (.t 16) (.c (.bool false))),zm 18 17,zw 18 true 19 (zo 0),zj 18 true 20 (zk 172 [zI 19]),zw 18 true 21 (.un .not (.t 20)),zv 22 (.pick (.t 18) (.t 21) (.c (.bool false))),zm 2 22]
def k0de:IC:=(.seq q3o (.seq q7y .ret))
@[go_sem] def s0de:List (RV×Co):=[(.t 2,.id)]
theorem c0de:cFun Tryz.prog 113 = some (23,k0de,s0de):=by kernel_rfl

def q2j:IC:=zr [zi 2 (.box (.t 0)),zv 4 zf]
def qbe7:IC:=zr [zv 5 (zd 2 2),zv 6 (zg 1 5),zv 7 (zq (.t 6) (zc 0)),zm 8 7,zw 8 true 9 (zd 2 4),zw 8 true 10 (zg 1 9),zw 8 true 11 (.len false (.t 10)),zw 8 true 12 (zo 1),zw 8 true 13 (zq (.t 11) (.t 12)),zv 14 (.pick (.t 8) (.t 13) (.c (.bool false))),zm 4 14]
def k0ch:IC:=(.seq q2j (.seq qbe7 .ret))
@[go_sem] def s0ch:List (RV×Co):=[(.t 4,.id)]
theorem c0ch:cFun Tryz.prog 114 = some (15,k0ch,s0ch):=by kernel_rfl

def q82:IC:=zr [zv 2 zf]
def qbdl:IC:=zr [zm 3 0,zv 4 (.bin .neq .no (.t 3) (.c (.str []))),zm 5 4,zw 5 true 6 (zo 0),zw 5 true 7 (.idx (.t 6) (zc 0)),zj 5 true 8 (zk 173 [zI 7]),zv 9 (.pick (.t 5) (.t 8) (.c (.bool false))),zm 10 9,zw 10 true 11 (zo 0),zj 10 true 12 (zk 171 [zI 11]),zv 13 (.pick (.t 10) (.t 12) (.c (.bool false))),zm 2 13]
def k0dc:IC:=(.seq q82 (.seq qbdl .ret))
@[go_sem] def s0dc:List (RV×Co):=[(.t 2,.id)]
theorem c0dc:cFun Tryz.prog 115 = some (14,k0dc,s0dc):=by kernel_rfl

def q1p:IC:=zr [zv 2 zf]
def q7l:IC:=zr [zv 3 (.mov (zc 0))]
def qbc0:IC:=zr [zm 4 3,zm 5 0,zv 6 (.len false (.t 5)),zv 7 (.bin .lss .no (.t 4) (.t 6))]
def qbdn:IC:=zr [zm 10 0,zm 11 3,zv 12 (.iad 5 (.t 10) (.t 11)),zv 13 (zl 5 12),zi 14 (zk 71 [zA 13]),zv 15 (.un .not (.t 14))]
def q0w:IC:=zr [zv 2 zf]
def q7t:IC:=zr [zm 8 3,zv 9 (.bin .add .no (.t 8) (zc 1)),zm 3 9]
def qbe0:IC:=(.seq (.seq qbc0 (.cond (.t 7) .skip (.exit 0))) (.seq (.block 1 (.seq qbdn (.cond (.t 15) (.seq q0w .ret) .skip))) q7t))
def q9x:IC:=zr [zv 2 (.mov (.c (.bool true)))]
def k0bu:IC:=(.seq q1p (.seq (.seq q7l (.block 0 (.loop qbe0))) (.seq q9x .ret)))
@[go_sem] def s0bu:List (RV×Co):=[(.t 2,.id)]
theorem c0bu:cFun Tryz.prog 116 = some (16,k0bu,s0bu):=by kernel_rfl

def q67:IC:=zr [zi 1 (.box (.t 0)),zv 2 (.mov (zc 0))]
def qbd8:IC:=zr [zv 3 (.mov (zc 0))]
def q07:IC:=zr [zv 4 (.mov (zc 0))]
def q8n:IC:=zr [zm 5 4,zv 6 (zd 1 4),zv 7 (zg 1 6),zv 8 (.len false (.t 7)),zv 9 (.bin .lss .no (.t 5) (.t 8))]
def q9m:IC:=zr [zm 12 3,zv 13 (zd 1 4),zv 14 (zg 1 13),zm 15 4,zv 16 (.iad 5 (.t 14) (.t 15)),zv 17 (zl 5 16),zi 18 (zk 117 [zA 17]),zv 19 (.mm true (.t 12) (.t 18)),zm 3 19]
def q93:IC:=zr [zm 10 4,zv 11 (.bin .add .no (.t 10) (zc 1)),zm 4 11]
def qbdd:IC:=(.seq (.seq q8n (.cond (.t 9) .skip (.exit 0))) (.seq (.block 1 q9m) q93))
def qba4:IC:=zr [zm 20 3,zv 21 (.bin .add .no (.t 20) (zc 1)),zm 2 21]
def k0cq:IC:=(.seq q67 (.seq qbd8 (.seq (.seq q07 (.block 0 (.loop qbdd))) (.seq qba4 .ret))))
@[go_sem] def s0cq:List (RV×Co):=[(.t 2,.id)]
theorem c0cq:cFun Tryz.prog 117 = some (22,k0cq,s0cq):=by kernel_rfl

def qbjl:IC:=zr [zi 1 (.box (.t 0)),zv 2 (.mov (.c (.str [])))]
def qbjk:IC:=.drw [zp (zv 3 (zd 1 3)),zp (zv 4 (zg 1 3)),zp (zv 5 (zd 1 4)),zp (zv 6 (zg 1 5)),zp (zv 7 (.iad 5 (.t 6) (zc 0))),zp (zv 8 (zl 5 7)),(zi 9 (zk 119 [zA 8]),[1]),zp (zv 10 (.bin .add .no (.t 4) (.t 9))),zp (zm 2 10)]
def k0x:IC:=(.seq qbjl (.seq qbjk .ret))
@[go_sem] def s0x:List (RV×Co):=[(.t 2,.id)]
theorem c0x:cFun Tryz.prog 118 = some (11,k0x,s0x):=by kernel_rfl

def qbh5:IC:=zr [zi 1 (.box (.t 0)),zv 2 (.mov (.c (.str [])))]
def qbja:IC:=.drw [zp (zv 3 (zl 5 1)),(zv 4 (.bld [(.int .i64 0),(.int .i64 0),(.int .i64 0),(.str []),.nils] [(0,5,(.t 3))]),[]),(zv 5 (.mki 37 (.t 4) zN),[]),zp (zv 6 (zl 5 1)),(zi 7 (zk 134 [zA 6]),[0,2]),(zi 8 (zk 131 [zI 5,zI 7]),[]),(zv 9 (.bin .add .no (.c (.str [32])) (.t 8)),[]),zp (zm 2 9)]
def k0v:IC:=(.seq qbh5 (.seq qbja .ret))
@[go_sem] def s0v:List (RV×Co):=[(.t 2,.id)]
theorem c0v:cFun Tryz.prog 119 = some (10,k0v,s0v):=by kernel_rfl

def q21:IC:=zr [zi 1 (.box (.t 0)),zv 2 zf]
def q4r:IC:=zr [zv 3 (zd 1 0),zv 4 (zg 1 3),zv 5 (zq (.t 4) (zc 31)),zm 6 5,zw 6 true 7 (zd 1 3),zw 6 true 8 (zg 1 7),zj 6 true 9 (zk 113 [zI 8]),zv 10 (.pick (.t 6) (.t 9) (.c (.bool false))),zm 11 10,zw 11 true 12 (zl 5 1),zj 11 true 13 (zk 114 [zA 12,((zc 1),.id)]),zv 14 (.pick (.t 11) (.t 13) (.c (.bool false))),zm 15 14,zw 15 true 16 (zd 1 4),zw 15 true 17 (zg 1 16),zw 15 true 18 (.iad 5 (.t 17) (zc 0)),zw 15 true 19 (zl 5 18),zj 15 true 20 (zk 79 [zA 19]),zv 21 (.pick (.t 15) (.t 20) (.c (.bool false))),zm 2 21]
def k0bk:IC:=(.seq q21 (.seq q4r .ret))
@[go_sem] def s0bk:List (RV×Co):=[(.t 2,.id)]
theorem c0bk:cFun Tryz.prog 120 = some (22,k0bk,s0bk):=by kernel_rfl

def qbb2:IC:=zr [zi 1 (.box (.t 0)),zv 2 zf]
def q0y:IC:=zr [zv 3 (zd 1 0),zv 4 (zg 1 3),zv 5 (zq (.t 4) (zc 32)),zm 6 5,zw 6 true 7 (zd 1 3),zw 6 true 8 (zg 1 7),zj 6 true 9 (zk 113 [zI 8]),zv 10 (.pick (.t 6) (.t 9) (.c (.bool false))),zm 11 10,zw 11 true 12 (zl 5 1),zj 11 true 13 (zk 114 [zA 12,((zc 1),.id)]),zv 14 (.pick (.t 11) (.t 13) (.c (.bool false))),zm 15 14,zw 15 true 16 (zd 1 4),zw 15 true 17 (zg 1 16),zw 15 true 18 (.iad 5 (.t 17) (zc 0)),zw 15 true 19 (zl 5 18),zj 15 true 20 (zk 174 [zA 19]),zv 21 (.pick (.t 15) (.t 20) (.c (.bool false))),zm 2 21]
def k0ce:IC:=(.seq qbb2 (.seq q0y .ret))
@[go_sem] def s0ce:List (RV×Co):=[(.t 2,.id)]
theorem c0ce:cFun Tryz.prog 121 = some (22,k0ce,s0ce):=by kernel_rfl

def qbd4:IC:=zr [zi 1 (.box (.t 0)),zv 2 zf]
def q7h:IC:=zr [zv 6 (zd 1 3),zv 7 (zg 1 6),zi 8 (zk 115 [zI 7]),zv 9 (.un .not (.t 8)),zm 10 9,zw 10 false 11 (zd 1 2),zw 10 false 12 (zg 1 11),zw 10 false 13 (.bin .lss .no (.t 12) (zc 0)),zv 14 (.pick (.t 10) (.c (.bool true)) (.t 13)),zm 15 14,zw 15 false 16 (zd 1 2),zw 15 false 17 (zg 1 16),zw 15 false 18 (zd 1 4),zw 15 false 19 (zg 1 18),zw 15 false 20 (.len false (.t 19)),zw 15 false 21 (.bin .geq .no (.t 17) (.t 20)),zv 22 (.pick (.t 15) (.c (.bool true)) (.t 21))]
def q0o:IC:=zr [zv 2 zf]
def qbbb:IC:=zr [zv 3 (.mov (zc 0))]
def q7g:IC:=zr [zm 23 3,zv 24 (zd 1 2),zv 25 (zg 1 24),zv 26 (.bin .lss .no (.t 23) (.t 25))]
def q0h:IC:=zr [zv 29 (zd 1 4),zv 30 (zg 1 29),zm 31 3,zv 32 (.iad 5 (.t 30) (.t 31)),zv 33 (zd 32 0),zv 34 (zg 1 33),zv 35 (.bin .neq .no (.t 34) (zc 1)),zm 36 35,zw 36 false 37 (zd 1 4),zw 36 false 38 (zg 1 37),zw 36 false 39 (zo 3),zw 36 false 40 (.iad 5 (.t 38) (.t 39)),zw 36 false 41 (zl 5 40),zj 36 false 42 (zk 71 [zA 41]),zw 36 false 43 (.un .not (.t 42)),zv 44 (.pick (.t 36) (.c (.bool true)) (.t 43))]
def q91:IC:=zr [zv 2 zf]
def q4t:IC:=zr [zm 27 3,zv 28 (.bin .add .no (.t 27) (zc 1)),zm 3 28]
def q4q:IC:=(.seq (.seq q7g (.cond (.t 26) .skip (.exit 0))) (.seq (.block 1 (.seq q0h (.cond (.t 44) (.seq q91 .ret) .skip))) q4t))
def qup:IC:=zr [zv 45 (zd 1 2),zv 46 (zg 1 45),zm 4 46]
def qw6:IC:=zr [zm 47 4,zv 48 (zd 1 4),zv 49 (zg 1 48),zv 50 (.len false (.t 49)),zv 51 (.bin .lss .no (.t 47) (.t 50))]
def qwf:IC:=zr [zv 54 (zd 1 4),zv 55 (zg 1 54),zm 56 4,zv 57 (.iad 5 (.t 55) (.t 56)),zv 58 (zl 5 57),zi 5 zaN,zn (.st 5 zN (.t 5) (.t 58))]
def qwa:IC:=zr [zv 59 (zd 5 0),zv 60 (zg 1 59),zv 61 (.bin .neq .no (.t 60) (zc 34)),zm 62 61,zw 62 false 63 (zd 5 3),zw 62 false 64 (zg 1 63),zj 62 false 65 (zk 115 [zI 64]),zw 62 false 66 (.un .not (.t 65)),zv 67 (.pick (.t 62) (.c (.bool true)) (.t 66)),zm 68 67,zw 68 false 69 (zd 5 2),zw 68 false 70 (zg 1 69),zw 68 false 71 (.bin .neq .no (.t 70) (zc 0)),zv 72 (.pick (.t 68) (.c (.bool true)) (.t 71)),zm 73 72,zw 73 false 74 (zd 5 4),zw 73 false 75 (zg 1 74),zj 73 false 76 (zk 116 [((.t 75),(.sl 5))]),zw 73 false 77 (.un .not (.t 76)),zv 78 (.pick (.t 73) (.c (.bool true)) (.t 77))]
def qyk:IC:=zr [zv 2 zf]
def qzs:IC:=zr [zm 52 4,zv 53 (.bin .add .no (.t 52) (zc 1)),zm 4 53]
def qyq:IC:=(.seq (.seq qw6 (.cond (.t 51) .skip (.exit 2))) (.seq (.block 3 (.seq qwf (.seq qwa (.cond (.t 78) (.seq qyk .ret) .skip)))) qzs))
def qtz:IC:=zr [zv 2 (.mov (.c (.bool true)))]
def k0ef:IC:=(.seq qbd4 (.seq (.seq q7h (.cond (.t 22) (.seq q0o .ret) .skip)) (.seq (.seq qbbb (.block 0 (.loop q4q))) (.seq (.seq qup (.block 2 (.loop qyq))) (.seq qtz .ret)))))
@[go_sem] def s0ef:List (RV×Co):=[(.t 2,.id)]
theorem c0ef:cFun Tryz.prog 122 = some (79,k0ef,s0ef):=by kernel_rfl

def qbc8:IC:=zr [zi 1 (.box (.t 0)),zv 2 zf]
def qbdg:IC:=zr [zv 5 (zd 1 3),zv 6 (zg 1 5),zi 7 (zk 115 [zI 6]),zv 8 (.un .not (.t 7)),zm 9 8,zw 9 false 10 (zd 1 2),zw 9 false 11 (zg 1 10),zw 9 false 12 (.bin .lss .no (.t 11) (zc 0)),zv 13 (.pick (.t 9) (.c (.bool true)) (.t 12)),zm 14 13,zw 14 false 15 (zd 1 2),zw 14 false 16 (zg 1 15),zw 14 false 17 (zd 1 4),zw 14 false 18 (zg 1 17),zw 14 false 19 (.len false (.t 18)),zw 14 false 20 (.bin .geq .no (.t 16) (.t 19)),zv 21 (.pick (.t 14) (.c (.bool true)) (.t 20)),zm 22 21,zw 22 false 23 (zd 1 4),zw 22 false 24 (zg 1 23),zw 22 false 25 (zd 1 2),zw 22 false 26 (zg 1 25),zw 22 false 27 (.slv 5 (.t 24) none (some (.t 26)) none),zj 22 false 28 (zk 175 [((.t 27),(.sl 5))]),zw 22 false 29 (.un .not (.t 28)),zv 30 (.pick (.t 22) (.c (.bool true)) (.t 29)),zm 31 30,zw 31 false 32 (zd 1 4),zw 31 false 33 (zg 1 32),zw 31 false 34 (zd 1 2),zw 31 false 35 (zg 1 34),zw 31 false 36 (.iad 5 (.t 33) (.t 35)),zw 31 false 37 (zl 5 36),zj 31 false 38 (zk 71 [zA 37]),zw 31 false 39 (.un .not (.t 38)),zv 40 (.pick (.t 31) (.c (.bool true)) (.t 39))]
def q3f:IC:=zr [zv 2 zf]
def q0r:IC:=zr [zv 41 (zd 1 0),zv 42 (zg 1 41),zv 43 (zq (.t 42) (zc 35)),zm 3 43]
def q2c:IC:=zr [zm 44 3,zm 45 44,zw 45 true 46 (zd 1 4),zw 45 true 47 (zg 1 46),zw 45 true 48 (zd 1 2),zw 45 true 49 (zg 1 48),zw 45 true 50 (.iad 5 (.t 47) (.t 49)),zw 45 true 51 (zd 50 0),zw 45 true 52 (zg 1 51),zw 45 true 53 (.bin .neq .no (.t 52) (zc 1)),zv 54 (.pick (.t 45) (.t 53) (.c (.bool false)))]
def qbei:IC:=zr [zv 2 zf]
def qbbt:IC:=zr [zv 55 (zd 1 2),zv 56 (zg 1 55),zv 57 (.bin .add .no (.t 56) (zc 1)),zm 4 57]
def q86:IC:=zr [zm 58 4,zv 59 (zd 1 4),zv 60 (zg 1 59),zv 61 (.len false (.t 60)),zv 62 (.bin .lss .no (.t 58) (.t 61))]
def qbb0:IC:=zr [zm 65 3,zm 66 65,zw 66 true 67 (zd 1 4),zw 66 true 68 (zg 1 67),zw 66 true 69 (zo 4),zw 66 true 70 (.iad 5 (.t 68) (.t 69)),zw 66 true 71 (zl 5 70),zj 66 true 72 (zk 121 [zA 71]),zw 66 true 73 (.un .not (.t 72)),zv 74 (.pick (.t 66) (.t 73) (.c (.bool false))),zm 75 74,zw 75 false 76 (zo 3),zw 75 false 77 (.un .not (.t 76)),zw 75 false 78 (zo 77),zw 78 true 79 (zd 1 4),zw 78 true 80 (zg 1 79),zw 78 true 81 (zo 4),zw 78 true 82 (.iad 5 (.t 80) (.t 81)),zw 78 true 83 (zl 5 82),zj 78 true 84 (zk 120 [zA 83]),zw 78 true 85 (.un .not (.t 84)),zw 75 false 86 (.pick (.t 78) (.t 85) (.c (.bool false))),zv 87 (.pick (.t 75) (.c (.bool true)) (.t 86))]
def qzn:IC:=zr [zv 2 zf]
def qv9:IC:=zr [zm 63 4,zv 64 (.bin .add .no (.t 63) (zc 1)),zm 4 64]
def qba8:IC:=(.seq (.seq q86 (.cond (.t 62) .skip (.exit 0))) (.seq (.block 1 (.seq qbb0 (.cond (.t 87) (.seq qzn .ret) .skip))) qv9))
def qvz:IC:=zr [zv 2 (.mov (.c (.bool true)))]
def k0ee:IC:=(.seq qbc8 (.seq (.seq qbdg (.cond (.t 40) (.seq q3f .ret) .skip)) (.seq q0r (.seq (.seq q2c (.cond (.t 54) (.seq qbei .ret) .skip)) (.seq (.seq qbbt (.block 0 (.loop qba8))) (.seq qvz .ret))))))
@[go_sem] def s0ee:List (RV×Co):=[(.t 2,.id)]
theorem c0ee:cFun Tryz.prog 123 = some (88,k0ee,s0ee):=by kernel_rfl

def qbe4:IC:=zr [zv 2 (.mov (.c (.int .u64 0)))]
def q8e:IC:=zr [zm 3 0,zv 4 (.bin .lss .no (.t 3) (zc 0))]
def qbe6:IC:=zr [zm 5 0,zv 6 (.cvi .u64 (.t 5)),zv 7 (.un .neg (.t 6)),zm 2 7]
def q22:IC:=zr [zm 8 0,zv 9 (.cvi .u64 (.t 8)),zm 2 9]
def k0df:IC:=(.seq qbe4 (.seq (.seq q8e (.cond (.t 4) (.seq qbe6 .ret) .skip)) (.seq q22 .ret)))
@[go_sem] def s0df:List (RV×Co):=[(.t 2,.id)]
theorem c0df:cFun Tryz.prog 124 = some (10,k0df,s0df):=by kernel_rfl

def q37:IC:=zr [zi 2 (.box (.t 0)),zv 4 zf]
def q4m:IC:=zr [zv 6 (zd 2 3),zv 7 (zg 1 6),zv 8 (.bin .neq .no (.t 7) (.c (.str []))),zm 9 8,zw 9 false 10 (zl 5 2),zw 9 false 11 (zo 1),zj 9 false 12 (zk 114 [zA 10,zI 11]),zw 9 false 13 (.un .not (.t 12)),zv 14 (.pick (.t 9) (.c (.bool true)) (.t 13))]
def q5j:IC:=zr [zv 4 zf]
def q4u:IC:=zr [zv 5 (.mov (zc 0))]
def q4f:IC:=zr [zm 15 5,zv 16 (zd 2 4),zv 17 (zg 1 16),zv 18 (.len false (.t 17)),zv 19 (.bin .lss .no (.t 15) (.t 18))]
def qbbo:IC:=zr [zv 22 (zd 2 4),zv 23 (zg 1 22),zm 24 5,zv 25 (.iad 5 (.t 23) (.t 24)),zv 26 (zl 5 25),zi 27 (zk 79 [zA 26]),zv 28 (.un .not (.t 27))]
def q4d:IC:=zr [zv 4 zf]
def q3p:IC:=zr [zm 20 5,zv 21 (.bin .add .no (.t 20) (zc 1)),zm 5 21]
def q8u:IC:=(.seq (.seq q4f (.cond (.t 19) .skip (.exit 0))) (.seq (.block 1 (.seq qbbo (.cond (.t 28) (.seq q4d .ret) .skip))) q3p))
def qzr:IC:=zr [zv 4 (.mov (.c (.bool true)))]
def k0bj:IC:=(.seq q37 (.seq (.seq q4m (.cond (.t 14) (.seq q5j .ret) .skip)) (.seq (.seq q4u (.block 0 (.loop q8u))) (.seq qzr .ret))))
@[go_sem] def s0bj:List (RV×Co):=[(.t 4,.id)]
theorem c0bj:cFun Tryz.prog 125 = some (29,k0bj,s0bj):=by kernel_rfl

def qbdw:IC:=zr [zi 1 (.box (.t 0)),zv 2 zf]
def q8a:IC:=zr [zv 5 (zd 1 4),zv 6 (zg 1 5),zv 7 (.len false (.t 6)),zv 8 (.bin .sub .no (.t 7) (zc 1)),zm 3 8]
def q9e:IC:=zr [zv 9 (zd 1 3),zv 10 (zg 1 9),zv 11 (.bin .neq .no (.t 10) (.c (.str []))),zm 12 11,zw 12 false 13 (zd 1 2),zw 12 false 14 (zg 1 13),zw 12 false 15 (.bin .neq .no (.t 14) (zc 0)),zv 16 (.pick (.t 12) (.c (.bool true)) (.t 15)),zm 17 16,zw 17 false 18 (zo 3),zw 17 false 19 (.bin .lss .no (.t 18) (zc 1)),zv 20 (.pick (.t 17) (.c (.bool true)) (.t 19))]
def q5u:IC:=zr [zv 2 zf]
def q0z:IC:=zr [zv 4 (.mov (zc 0))]
def q55:IC:=zr [zm 21 4,zm 22 3,zv 23 (.bin .lss .no (.t 21) (.t 22))]
def q5e:IC:=zr [zv 26 (zd 1 4),zv 27 (zg 1 26),zm 28 4,zv 29 (.iad 5 (.t 27) (.t 28)),zv 30 (zl 5 29),zi 31 (zk 120 [zA 30]),zv 32 (.un .not (.t 31)),zm 33 32,zw 33 true 34 (zd 1 4),zw 33 true 35 (zg 1 34),zw 33 true 36 (zo 4),zw 33 true 37 (.iad 5 (.t 35) (.t 36)),zw 33 true 38 (zl 5 37),zj 33 true 39 (zk 121 [zA 38]),zw 33 true 40 (.un .not (.t 39)),zv 41 (.pick (.t 33) (.t 40) (.c (.bool false)))]
def q5i:IC:=zr [zv 2 zf]
def q8z:IC:=zr [zm 24 4,zv 25 (.bin .add .no (.t 24) (zc 1)),zm 4 25]
def q28:IC:=(.seq (.seq q55 (.cond (.t 23) .skip (.exit 0))) (.seq (.block 1 (.seq q5e (.cond (.t 41) (.seq q5i .ret) .skip))) q8z))
def qwv:IC:=zr [zv 42 (zd 1 4),zv 43 (zg 1 42),zm 44 3,zv 45 (.iad 5 (.t 43) (.t 44)),zv 46 (zl 5 45),zi 47 (zk 79 [zA 46]),zm 2 47]
def k0bm:IC:=(.seq qbdw (.seq q8a (.seq (.seq q9e (.cond (.t 20) (.seq q5u .ret) .skip)) (.seq (.seq q0z (.block 0 (.loop q28))) (.seq qwv .ret)))))
@[go_sem] def s0bm:List (RV×Co):=[(.t 2,.id)]
theorem c0bm:cFun Tryz.prog 126 = some (48,k0bm,s0bm):=by kernel_rfl

def q3m:IC:=zr [zi 1 (.box (.t 0)),zv 2 zf]
def q2z:IC:=zr [zv 4 (zd 1 3),zv 5 (zg 1 4),zv 6 (.bin .neq .no (.t 5) (.c (.str []))),zm 7 6,zw 7 false 8 (zd 1 2),zw 7 false 9 (zg 1 8),zw 7 false 10 (.bin .neq .no (.t 9) (zc 0)),zv 11 (.pick (.t 7) (.c (.bool true)) (.t 10)),zm 12 11,zw 12 false 13 (zd 1 4),zw 12 false 14 (zg 1 13),zw 12 false 15 (.len false (.t 14)),zw 12 false 16 (.bin .lss .no (.t 15) (zc 2)),zv 17 (.pick (.t 12) (.c (.bool true)) (.t 16)),zm 18 17,zw 18 false 19 (zd 1 4),zw 18 false 20 (zg 1 19),zw 18 false 21 (.iad 5 (.t 20) (zc 0)),zw 18 false 22 (zl 5 21),zj 18 false 23 (zk 79 [zA 22]),zw 18 false 24 (.un .not (.t 23)),zv 25 (.pick (.t 18) (.c (.bool true)) (.t 24))]
def q3a:IC:=zr [zv 2 zf]
def q2e:IC:=zr [zv 3 (.mov (zc 1))]
def q3u:IC:=zr [zm 26 3,zv 27 (zd 1 4),zv 28 (zg 1 27),zv 29 (.len false (.t 28)),zv 30 (.bin .lss .no (.t 26) (.t 29))]
def q2i:IC:=zr [zv 33 (zd 1 4),zv 34 (zg 1 33),zm 35 3,zv 36 (.iad 5 (.t 34) (.t 35)),zv 37 (zl 5 36),zi 38 (zk 176 [zA 37]),zv 39 (.un .not (.t 38))]
def q0x:IC:=zr [zv 2 zf]
def q54:IC:=zr [zm 31 3,zv 32 (.bin .add .no (.t 31) (zc 1)),zm 3 32]
def qbbq:IC:=(.seq (.seq q3u (.cond (.t 30) .skip (.exit 0))) (.seq (.block 1 (.seq q2i (.cond (.t 39) (.seq q0x .ret) .skip))) q54))
def qv0:IC:=zr [zv 2 (.mov (.c (.bool true)))]
def k0bn:IC:=(.seq q3m (.seq (.seq q2z (.cond (.t 25) (.seq q3a .ret) .skip)) (.seq (.seq q2e (.block 0 (.loop qbbq))) (.seq qv0 .ret))))
@[go_sem] def s0bn:List (RV×Co):=[(.t 2,.id)]
theorem c0bn:cFun Tryz.prog 127 = some (40,k0bn,s0bn):=by kernel_rfl

def qbj2:IC:=zr [zv 4 (.mov (.c (.str [])))]
def qbht:IC:=zr [zm 5 1]
def qbfz:IC:=zr [zm 6 0,zi 7 (zk 46 [zI 6]),zm 4 7]
def qbjx:IC:=zr [zm 8 0,zi 9 (zk 46 [zI 8]),zv 10 (.bin .add .no (.c (.str [40])) (.t 9)),zv 11 (.bin .add .no (.t 10) (.c (.str [41]))),zm 4 11]
def k0t:IC:=(.seq qbj2 (.seq (.seq qbht (.cond (.t 5) (.seq qbfz .ret) .skip)) (.seq qbjx .ret)))
@[go_sem] def s0t:List (RV×Co):=[(.t 4,.id)]
theorem c0t:cFun Tryz.prog 131 = some (12,k0t,s0t):=by kernel_rfl

def qbc9:IC:=zr [zv 2 (.mov (.c (.str [])))]
def qbbr:IC:=zr [zm 6 0,zv 7 (.cvi .u64 (.t 6)),zm 3 7]
def qbcc:IC:=zr [zm 8 0,zv 9 (.bin .lss .no (.t 8) (zc 0))]
def q1c:IC:=zr [zm 10 3,zv 11 (.un .neg (.t 10)),zm 3 11]
def q4k:IC:=zr [zi 4 (.alo [(.int .u8 0),(.int .u8 0),(.int .u8 0),(.int .u8 0),(.int .u8 0),(.int .u8 0),(.int .u8 0),(.int .u8 0),(.int .u8 0),(.int .u8 0),(.int .u8 0),(.int .u8 0),(.int .u8 0),(.int .u8 0),(.int .u8 0),(.int .u8 0),(.int .u8 0),(.int .u8 0),(.int .u8 0),(.int .u8 0)])]
def q6o:IC:=zr [zv 5 (.mov (zc 20))]
def q48:IC:=zr [zm 12 5,zv 13 (.bin .sub .no (.t 12) (zc 1)),zm 5 13]
def qbd9:IC:=zr [zm 14 5,zm 15 3,zv 16 (.bin .rem .no (.t 15) (.c (.int .u64 10))),zv 17 (.bin .add .no (.c (.int .u64 48)) (.t 16)),zv 18 (.cvi .u8 (.t 17)),zv 19 (.aad 1 20 (.t 4) (.t 14)),zn (.st 1 .id (.t 19) (.t 18))]
def qbc2:IC:=zr [zm 20 3,zv 21 (.bin .quo .no (.t 20) (.c (.int .u64 10))),zm 3 21]
def quv:IC:=zr [zm 22 3,zv 23 (zq (.t 22) (.c (.int .u64 0)))]
def q3d:IC:=(.block 1 (.seq q48 (.seq qbd9 (.seq qbc2 (.seq quv (.cond (.t 23) (.exit 0) .skip))))))
def qt0:IC:=zr [zm 24 0,zv 25 (.bin .lss .no (.t 24) (zc 0))]
def quc:IC:=zr [zm 26 5,zv 27 (.sla 20 (.t 4) (.t 26)),zv 28 (.cbs (.t 27)),zv 29 (.bin .add .no (.c (.str [45])) (.t 28)),zm 2 29]
def qxj:IC:=zr [zm 30 5,zv 31 (.sla 20 (.t 4) (.t 30)),zv 32 (.cbs (.t 31)),zm 2 32]
def k0dh:IC:=(.seq qbc9 (.seq qbbr (.seq (.seq qbcc (.cond (.t 9) q1c .skip)) (.seq q4k (.seq q6o (.seq (.block 0 (.loop q3d)) (.seq (.seq qt0 (.cond (.t 25) (.seq quc .ret) .skip)) (.seq qxj .ret))))))))
@[go_sem] def s0dh:List (RV×Co):=[(.t 2,.id)]
theorem c0dh:cFun Tryz.prog 132 = some (33,k0dh,s0dh):=by kernel_rfl

def q3i:IC:=zr [zi 1 (.box (.t 0)),zv 2 (.mov (.c (.str [])))]
def qba9:IC:=.drw [zp (zv 3 (zl 5 1)),(zv 4 (.bld [(.int .i64 0),(.int .i64 0),(.int .i64 0),(.str []),.nils] [(0,5,(.t 3))]),[]),(zv 5 (.mki 38 (.t 4) zN),[]),zp (zv 6 (zl 5 1)),(zi 7 (zk 134 [zA 6]),[0,2]),(zi 8 (zk 131 [zI 5,zI 7]),[]),(zv 9 (.bin .add .no (.c (.str [32])) (.t 8)),[]),zp (zm 2 9)]
def k0ba:IC:=(.seq q3i (.seq qba9 .ret))
@[go_sem] def s0ba:List (RV×Co):=[(.t 2,.id)]
theorem c0ba:cFun Tryz.prog 133 = some (10,k0ba,s0ba):=by kernel_rfl

def qbhz:IC:=zr [zi 1 (.box (.t 0)),zv 2 zf]
def qbfh:IC:=zr [zv 3 (zd 1 4),zv 4 (zg 1 3),zv 5 (.len false (.t 4)),zv 6 (zq (.t 5) (zc 0)),zm 2 6]
def k0s:IC:=(.seq qbhz (.seq qbfh .ret))
@[go_sem] def s0s:List (RV×Co):=[(.t 2,.id)]
theorem c0s:cFun Tryz.prog 134 = some (7,k0s,s0s):=by kernel_rfl

def qbkg:IC:=zr [zv 3 (.mov (.c (.str [])))]
def qbii:IC:=zr [zv 4 (zd 1 4),zv 5 (zg 1 4),zm 6 0,zv 7 (.iad 5 (.t 5) (.t 6)),zv 8 (zl 5 7),zv 9 (.bld [(.int .i64 0),(.int .i64 0),(.int .i64 0),(.str []),.nils] [(0,5,(.t 8))]),zv 10 (.mki 39 (.t 9) zN),zi 11 (zk 46 [zI 10]),zm 3 11]
def k0n:IC:=(.seq qbkg (.seq qbii .ret))
@[go_sem] def s0n:List (RV×Co):=[(.t 3,.id)]
theorem c0n:cFun Tryz.prog 135 = some (12,k0n,s0n):=by kernel_rfl

def qbkm:IC:=zr [zv 2 (.mov (.c (.str [])))]
def qbh4:IC:=zr [zm 3 0,zi 4 (zk 44 [((.t 3),(.sl 5)),((.c (.str [59,32])),.id),((.c (.fn 179 [] [])),.id)]),zi 5 (zk 137 [zI 4]),zm 2 5]
def k0p:IC:=(.seq qbkm (.seq qbh4 .ret))
@[go_sem] def s0p:List (RV×Co):=[(.t 2,.id)]
theorem c0p:cFun Tryz.prog 136 = some (6,k0p,s0p):=by kernel_rfl

def qbgy:IC:=zr [zv 2 (.mov (.c (.str [])))]
def qbfg:IC:=zr [zm 3 0,zv 4 (zq (.t 3) (.c (.str [])))]
def qbi9:IC:=zr [zv 2 (.mov (.c (.str [123,32,125])))]
def qbf6:IC:=zr [zm 5 0,zv 6 (.bin .add .no (.c (.str [123,32])) (.t 5)),zv 7 (.bin .add .no (.t 6) (.c (.str [32,125]))),zm 2 7]
def k0o:IC:=(.seq qbgy (.seq (.seq qbfg (.cond (.t 4) (.seq qbi9 .ret) .skip)) (.seq qbf6 .ret)))
@[go_sem] def s0o:List (RV×Co):=[(.t 2,.id)]
theorem c0o:cFun Tryz.prog 137 = some (8,k0o,s0o):=by kernel_rfl

def qbh6:IC:=zr [zi 1 (.box (.t 0)),zv 2 (.mov (.c (.str [])))]
def qbjh:IC:=.drw [zp (zv 3 (zd 1 4)),zp (zv 4 (zg 1 3)),zp (zv 5 (.iad 5 (.t 4) (zc 0))),zp (zv 6 (zl 5 5)),(zv 7 (.bld [(.int .i64 0),(.int .i64 0),(.int .i64 0),(.str []),.nils] [(0,5,(.t 6))]),[]),(zv 8 (.mki 38 (.t 7) zN),[]),(zi 9 (zk 46 [zI 8]),[]),(zv 10 (.bin .add .no (.t 9) (.c (.str [32,45,62,32]))),[]),zp (zv 11 (zd 1 4)),(zv 12 (zg 1 11),[6]),zp (zv 13 (.iad 5 (.t 12) (zc 1))),(zv 14 (zl 5 13),[6]),(zv 15 (.bld [(.int .i64 0),(.int .i64 0),(.int .i64 0),(.str []),.nils] [(0,5,(.t 14))]),[]),(zv 16 (.mki 39 (.t 15) zN),[6]),(zi 17 (zk 46 [zI 16]),[]),zp (zv 18 (.bin .add .no (.t 10) (.t 17))),zp (zm 2 18)]
def k0r:IC:=(.seq qbh6 (.seq qbjh .ret))
@[go_sem] def s0r:List (RV×Co):=[(.t 2,.id)]
theorem c0r:cFun Tryz.prog 138 = some (19,k0r,s0r):=by kernel_rfl

def qbkr:IC:=zr [zi 1 (.box (.t 0)),zv 2 (.mov (.c (.str [])))]
def qbj0:IC:=zr [zv 3 (zl 5 1),zv 4 (.bld [(.int .i64 0),(.int .i64 0),(.int .i64 0),(.str []),.nils] [(0,5,(.t 3))]),zv 5 (.mki 37 (.t 4) zN),zi 6 (zk 46 [zI 5]),zm 2 6]
def k0k:IC:=(.seq qbkr (.seq qbj0 .ret))
@[go_sem] def s0k:List (RV×Co):=[(.t 2,.id)]
theorem c0k:cFun Tryz.prog 139 = some (7,k0k,s0k):=by kernel_rfl

def q27:IC:=zr [zv 4 (zl 5 1),zv 5 (zg 1 2),zm 6 0,zi 7 (zk 141 [zA 4,zI 5,zI 6])]
def k0cm:IC:=q27
@[go_sem] def s0cm:List (RV×Co):=[]
theorem c0cm:cFun Tryz.prog 140 = some (8,k0cm,s0cm):=by kernel_rfl

def q4h:IC:=zr [zi 3 (.box (.t 0)),zv 6 zf]
def q6r:IC:=zr [zm 9 2,zm 10 1,zv 11 (zl 5 3),zi 12 (.call (.t 9) [zI 10,zA 11]),zv 13 (.un .not (.t 12))]
def q7d:IC:=zr [zv 6 zf]
def q7s:IC:=zr [zv 14 (zd 3 4),zv 15 (zg 1 14),zv 16 (.len false (.t 15)),zv 17 (.mov (zc 0))]
def q7f:IC:=zr [zv 18 (.bin .lss .no (.t 17) (.t 16))]
def qbac:IC:=zr [zv 19 (.iad 5 (.t 15) (.t 17)),zv 20 (zl 5 19),zi 8 zaN,zn (.st 5 zN (.t 8) (.t 20))]
def q84:IC:=zr [zv 21 (zl 5 8),zm 22 1,zv 23 (.bin .add .no (.t 22) (zc 1)),zm 24 2,zi 25 (zk 141 [zA 21,zI 23,zI 24]),zv 26 (.un .not (.t 25))]
def q5k:IC:=zr [zv 6 zf]
def q7a:IC:=zr [zv 27 (.bin .add .no (.t 17) (zc 1)),zm 17 27]
def qbbs:IC:=(.seq q7f (.seq (.cond (.t 18) .skip (.exit 0)) (.seq (.block 1 (.seq qbac (.seq q84 (.cond (.t 26) (.seq q5k .ret) .skip)))) q7a)))
def qwn:IC:=zr [zv 6 (.mov (.c (.bool true)))]
def k0cl:IC:=(.seq q4h (.seq (.seq q6r (.cond (.t 13) (.seq q7d .ret) .skip)) (.seq (.seq q7s (.block 0 (.loop qbbs))) (.seq qwn .ret))))
@[go_sem] def s0cl:List (RV×Co):=[(.t 6,.id)]
theorem c0cl:cFun Tryz.prog 141 = some (28,k0cl,s0cl):=by kernel_rfl

def q8q:IC:=zr [zv 2 zf]
def q8g:IC:=zr [zm 3 0,zv 4 (.bin .geq .no (.t 3) (.c (.int .u8 97))),zm 5 4,zw 5 true 6 (zo 0),zw 5 true 7 (.bin .leq .no (.t 6) (.c (.int .u8 122))),zv 8 (.pick (.t 5) (.t 7) (.c (.bool false))),zm 9 8,zw 9 false 10 (zo 0),zw 9 false 11 (zq (.t 10) (.c (.int .u8 95))),zv 12 (.pick (.t 9) (.c (.bool true)) (.t 11)),zm 2 12]
def k0cr:IC:=(.seq q8q (.seq q8g .ret))
@[go_sem] def s0cr:List (RV×Co):=[(.t 2,.id)]
theorem c0cr:cFun Tryz.prog 142 = some (13,k0cr,s0cr):=by kernel_rfl

def qbds:IC:=zr [zv 2 zf]
def qbbf:IC:=zr [zm 5 0,zv 6 (.len true (.t 5)),zv 7 (.mov (zc 0))]
def q5o:IC:=zr [zv 8 (.bin .lss .no (.t 7) (.t 6))]
def q8p:IC:=zr [zm 9 7,zm 3 9]
def q8b:IC:=zr [zm 10 0,zm 11 3,zv 12 (.idx (.t 10) (.t 11)),zm 4 12]
def q8o:IC:=zr [zm 13 4,zi 14 (zk 142 [zI 13]),zv 15 (.un .not (.t 14)),zm 16 15,zw 16 true 17 (zo 4),zj 16 true 18 (zk 145 [zI 17]),zw 16 true 19 (.un .not (.t 18)),zv 20 (.pick (.t 16) (.t 19) (.c (.bool false))),zm 21 20,zw 21 true 22 (zo 4),zw 21 true 23 (.bin .lss .no (.t 22) (.c (.int .u8 48))),zw 21 true 24 (zo 23),zw 24 false 25 (zo 4),zw 24 false 26 (.bin .gtr .no (.t 25) (.c (.int .u8 57))),zw 21 true 27 (.pick (.t 24) (.c (.bool true)) (.t 26)),zv 28 (.pick (.t 21) (.t 27) (.c (.bool false))),zm 29 28,zw 29 true 30 (zo 4),zw 29 true 31 (.bin .neq .no (.t 30) (.c (.int .u8 39))),zv 32 (.pick (.t 29) (.t 31) (.c (.bool false)))]
def qbcg:IC:=zr [zv 2 zf]
def q1a:IC:=zr [zv 33 (.bin .add .no (.t 7) (zc 1)),zm 7 33]
def q5x:IC:=(.seq q5o (.seq (.cond (.t 8) .skip (.exit 0)) (.seq (.block 1 (.seq q8p (.seq q8b (.seq q8o (.cond (.t 32) (.seq qbcg .ret) .skip))))) q1a)))
def qx6:IC:=zr [zv 2 (.mov (.c (.bool true)))]
def k0cx:IC:=(.seq qbds (.seq (.seq qbbf (.block 0 (.loop q5x))) (.seq qx6 .ret)))
@[go_sem] def s0cx:List (RV×Co):=[(.t 2,.id)]
theorem c0cx:cFun Tryz.prog 143 = some (34,k0cx,s0cx):=by kernel_rfl

def qbbk:IC:=zr [zv 2 zf]
def q2u:IC:=zr [zv 3 zf]
def qbbw:IC:=zr [zv 6 (.bld [(.str []),(.str []),(.str []),(.str []),(.str []),(.str []),(.str []),(.str []),(.str []),(.str []),(.str [])] [(0,1,(.c (.str [100,97,116,97]))),(1,1,(.c (.str [99,108,97,115,115]))),(2,1,(.c (.str [105,110,115,116,97,110,99,101]))),(3,1,(.c (.str [119,104,101,114,101]))),(4,1,(.c (.str [108,101,116]))),(5,1,(.c (.str [105,110]))),(6,1,(.c (.str [99,97,115,101]))),(7,1,(.c (.str [111,102]))),(8,1,(.c (.str [105,102]))),(9,1,(.c (.str [116,104,101,110]))),(10,1,(.c (.str [101,108,115,101])))]),zv 7 (.mov (zc 0))]
def qbdx:IC:=zr [zv 8 (.bin .lss .no (.t 7) (zc 11))]
def qbao:IC:=zr [zv 9 (.ida false 1 11 (.t 6) (.t 7)),zm 5 9]
def q25:IC:=zr [zm 10 5,zm 11 0,zv 12 (.bin .neq .no (.t 10) (.t 11))]
def qbej:IC:=zr [zv 3 (.mov (.c (.bool true)))]
def qbcy:IC:=zr [zv 13 (.bin .add .no (.t 7) (zc 1)),zm 7 13]
def q09:IC:=(.seq qbdx (.seq (.cond (.t 8) .skip (.exit 0)) (.seq (.block 1 (.seq qbao (.seq (.seq q25 (.cond (.t 12) (.exit 1) .skip)) (.seq qbej (.exit 0))))) qbcy)))
def qy2:IC:=zr [zm 14 3,zm 2 14]
def k0da:IC:=(.seq qbbk (.scope (.seq q2u (.seq (.label 0) (.seq (.seq qbbw (.block 0 (.loop q09))) (.seq qy2 .ret))))))
@[go_sem] def s0da:List (RV×Co):=[(.t 2,.id)]
theorem c0da:cFun Tryz.prog 144 = some (15,k0da,s0da):=by kernel_rfl

def q89:IC:=zr [zv 2 zf]
def q6b:IC:=zr [zm 3 0,zv 4 (.bin .geq .no (.t 3) (.c (.int .u8 65))),zm 5 4,zw 5 true 6 (zo 0),zw 5 true 7 (.bin .leq .no (.t 6) (.c (.int .u8 90))),zv 8 (.pick (.t 5) (.t 7) (.c (.bool false))),zm 2 8]
def k0ct:IC:=(.seq q89 (.seq q6b .ret))
@[go_sem] def s0ct:List (RV×Co):=[(.t 2,.id)]
theorem c0ct:cFun Tryz.prog 145 = some (9,k0ct,s0ct):=by kernel_rfl

def qbdh:IC:=zr [zi 1 (.box (.t 0)),zv 2 zf]
def q4w:IC:=zr [zv 4 (zd 1 4),zv 5 (zg 1 4),zv 6 (.len false (.t 5)),zv 7 (.bin .sub .no (.t 6) (zc 1)),zm 3 7]
def qbb1:IC:=zr [zv 8 (zd 1 0),zv 9 (zg 1 8),zv 10 (zq (.t 9) (zc 4)),zm 11 10,zw 11 true 12 (zl 5 1),zj 11 true 13 (zk 67 [zA 12]),zv 14 (.pick (.t 11) (.t 13) (.c (.bool false))),zm 15 14,zw 15 true 16 (zo 3),zw 15 true 17 (.bin .geq .no (.t 16) (zc 0)),zv 18 (.pick (.t 15) (.t 17) (.c (.bool false))),zm 19 18,zw 19 true 20 (zd 1 4),zw 19 true 21 (zg 1 20),zw 19 true 22 (zo 3),zw 19 true 23 (.slv 5 (.t 21) none (some (.t 22)) none),zj 19 true 24 (zk 68 [((.t 23),(.sl 5)),((.c (.fn 112 [] [])),.id)]),zv 25 (.pick (.t 19) (.t 24) (.c (.bool false))),zm 26 25,zw 26 true 27 (zd 1 4),zw 26 true 28 (zg 1 27),zw 26 true 29 (zo 3),zw 26 true 30 (.iad 5 (.t 28) (.t 29)),zw 26 true 31 (zl 5 30),zj 26 true 32 (zk 48 [zA 31]),zv 33 (.pick (.t 26) (.t 32) (.c (.bool false))),zm 2 33]
def k0cb:IC:=(.seq qbdh (.seq q4w (.seq qbb1 .ret)))
@[go_sem] def s0cb:List (RV×Co):=[(.t 2,.id)]
theorem c0cb:cFun Tryz.prog 157 = some (34,k0cb,s0cb):=by kernel_rfl

def q1o:IC:=zr [zv 2 zf]
def q66:IC:=zr [zm 3 0,zv 4 (.bin .geq .no (.t 3) (.c (.int .u8 97))),zm 5 4,zw 5 true 6 (zo 0),zw 5 true 7 (.bin .leq .no (.t 6) (.c (.int .u8 122))),zv 8 (.pick (.t 5) (.t 7) (.c (.bool false))),zm 9 8,zw 9 false 10 (zo 0),zw 9 false 11 (zq (.t 10) (.c (.int .u8 95))),zv 12 (.pick (.t 9) (.c (.bool true)) (.t 11)),zm 2 12]
def k0cs:IC:=(.seq q1o (.seq q66 .ret))
@[go_sem] def s0cs:List (RV×Co):=[(.t 2,.id)]
theorem c0cs:cFun Tryz.prog 170 = some (13,k0cs,s0cs):=by kernel_rfl

def q3b:IC:=zr [zv 2 zf]
def q24:IC:=zr [zv 3 (.mov (zc 1))]
def q1l:IC:=zr [zm 4 3,zm 5 0,zv 6 (.len true (.t 5)),zv 7 (.bin .lss .no (.t 4) (.t 6))]
def q8r:IC:=zr [zm 10 0,zm 11 3,zv 12 (.idx (.t 10) (.t 11)),zi 13 (zk 205 [zI 12]),zv 14 (.un .not (.t 13))]
def qben:IC:=zr [zv 2 zf]
def q2p:IC:=zr [zm 8 3,zv 9 (.bin .add .no (.t 8) (zc 1)),zm 3 9]
def qbb6:IC:=(.seq (.seq q1l (.cond (.t 7) .skip (.exit 0))) (.seq (.block 1 (.seq q8r (.cond (.t 14) (.seq qben .ret) .skip))) q2p))
def q70:IC:=zr [zv 2 (.mov (.c (.bool true)))]
def k0cy:IC:=(.seq q3b (.seq (.seq q24 (.block 0 (.loop qbb6))) (.seq q70 .ret)))
@[go_sem] def s0cy:List (RV×Co):=[(.t 2,.id)]
theorem c0cy:cFun Tryz.prog 171 = some (15,k0cy,s0cy):=by kernel_rfl

def q02:IC:=zr [zv 2 zf]
def q58:IC:=zr [zm 3 0]
def q4g:IC:=zr [zv 5 (zq (.t 3) (.c (.str [100,97,116,97]))),zm 4 5]
def q2q:IC:=zr [zv 6 (zq (.t 3) (.c (.str [99,108,97,115,115]))),zm 4 6]
def q11:IC:=zr [zv 7 (zq (.t 3) (.c (.str [105,110,115,116,97,110,99,101]))),zm 4 7]
def q7x:IC:=zr [zv 8 (zq (.t 3) (.c (.str [119,104,101,114,101]))),zm 4 8]
def q9q:IC:=zr [zv 9 (zq (.t 3) (.c (.str [108,101,116]))),zm 4 9]
def q8h:IC:=zr [zv 10 (zq (.t 3) (.c (.str [105,110]))),zm 4 10]
def q3e:IC:=zr [zv 11 (zq (.t 3) (.c (.str [99,97,115,101]))),zm 4 11]
def q8w:IC:=zr [zv 12 (zq (.t 3) (.c (.str [111,102]))),zm 4 12]
def qx9:IC:=zr [zv 13 (zq (.t 3) (.c (.str [105,102]))),zm 4 13]
def qu1:IC:=zr [zv 14 (zq (.t 3) (.c (.str [116,104,101,110]))),zm 4 14]
def qyw:IC:=zr [zv 15 (zq (.t 3) (.c (.str [101,108,115,101]))),zm 4 15]
def qtv:IC:=zr [zv 2 (.mov (.c (.bool true)))]
def qy7:IC:=zr [zv 2 zf]
def k0cz:IC:=(.seq q02 (.seq (.seq q58 (.block 0 (.seq (.seq q4g (.cond (.t 4) .skip (.seq q2q (.cond (.t 4) .skip (.seq q11 (.cond (.t 4) .skip (.seq q7x (.cond (.t 4) .skip (.seq q9q (.cond (.t 4) .skip (.seq q8h (.cond (.t 4) .skip (.seq q3e (.cond (.t 4) .skip (.seq q8w (.cond (.t 4) .skip (.seq qx9 (.cond (.t 4) .skip (.seq qu1 (.cond (.t 4) .skip qyw)))))))))))))))))))) (.cond (.t 4) (.seq qtv .ret) .skip)))) (.seq qy7 .ret)))
@[go_sem] def s0cz:List (RV×Co):=[(.t 2,.id)]
theorem c0cz:cFun Tryz.prog 172 = some (16,k0cz,s0cz):=by kernel_rfl

def q7p:IC:=zr [zv 2 zf]
def q4c:IC:=zr [zm 3 0,zv 4 (.bin .geq .no (.t 3) (.c (.int .u8 65))),zm 5 4,zw 5 true 6 (zo 0),zw 5 true 7 (.bin .leq .no (.t 6) (.c (.int .u8 90))),zv 8 (.pick (.t 5) (.t 7) (.c (.bool false))),zm 2 8]
def k0cu:IC:=(.seq q7p (.seq q4c .ret))
@[go_sem] def s0cu:List (RV×Co):=[(.t 2,.id)]
theorem c0cu:cFun Tryz.prog 173 = some (9,k0cu,s0cu):=by kernel_rfl

def qbdt:IC:=zr [zi 1 (.box (.t 0)),zv 2 zf]
def qbam:IC:=zr [zv 4 (zd 1 4),zv 5 (zg 1 4),zv 6 (.len false (.t 5)),zv 7 (.bin .sub .no (.t 6) (zc 1)),zm 3 7]
def q4s:IC:=zr [zv 8 (zd 1 0),zv 9 (zg 1 8),zv 10 (zq (.t 9) (zc 4)),zm 11 10,zw 11 true 12 (zd 1 3),zw 11 true 13 (zg 1 12),zw 11 true 14 (zq (.t 13) (.c (.str []))),zv 15 (.pick (.t 11) (.t 14) (.c (.bool false))),zm 16 15,zw 16 true 17 (zd 1 2),zw 16 true 18 (zg 1 17),zw 16 true 19 (zq (.t 18) (zc 0)),zv 20 (.pick (.t 16) (.t 19) (.c (.bool false))),zm 21 20,zw 21 true 22 (zo 3),zw 21 true 23 (.bin .geq .no (.t 22) (zc 0)),zv 24 (.pick (.t 21) (.t 23) (.c (.bool false))),zm 25 24,zw 25 true 26 (zd 1 4),zw 25 true 27 (zg 1 26),zw 25 true 28 (zo 3),zw 25 true 29 (.slv 5 (.t 27) none (some (.t 28)) none),zj 25 true 30 (zk 175 [((.t 29),(.sl 5))]),zv 31 (.pick (.t 25) (.t 30) (.c (.bool false))),zm 32 31,zw 32 true 33 (zd 1 4),zw 32 true 34 (zg 1 33),zw 32 true 35 (zo 3),zw 32 true 36 (.iad 5 (.t 34) (.t 35)),zw 32 true 37 (zl 5 36),zj 32 true 38 (zk 71 [zA 37]),zv 39 (.pick (.t 32) (.t 38) (.c (.bool false))),zm 2 39]
def k0cc:IC:=(.seq qbdt (.seq qbam (.seq q4s .ret)))
@[go_sem] def s0cc:List (RV×Co):=[(.t 2,.id)]
theorem c0cc:cFun Tryz.prog 174 = some (40,k0cc,s0cc):=by kernel_rfl

def q7v:IC:=zr [zv 2 zf]
def q7i:IC:=zr [zv 3 (.mov (zc 0))]
def q3h:IC:=zr [zm 4 3,zm 5 0,zv 6 (.len false (.t 5)),zv 7 (.bin .lss .no (.t 4) (.t 6))]
def q1m:IC:=zr [zm 10 0,zm 11 3,zv 12 (.iad 5 (.t 10) (.t 11)),zv 13 (zl 5 12),zi 14 (zk 206 [zA 13]),zv 15 (.un .not (.t 14))]
def qbde:IC:=zr [zv 2 zf]
def q30:IC:=zr [zm 8 3,zv 9 (.bin .add .no (.t 8) (zc 1)),zm 3 9]
def qba0:IC:=(.seq (.seq q3h (.cond (.t 7) .skip (.exit 0))) (.seq (.block 1 (.seq q1m (.cond (.t 15) (.seq qbde .ret) .skip))) q30))
def q0g:IC:=zr [zv 2 (.mov (.c (.bool true)))]
def k0ca:IC:=(.seq q7v (.seq (.seq q7i (.block 0 (.loop qba0))) (.seq q0g .ret)))
@[go_sem] def s0ca:List (RV×Co):=[(.t 2,.id)]
theorem c0ca:cFun Tryz.prog 175 = some (16,k0ca,s0ca):=by kernel_rfl

def q6l:IC:=zr [zi 1 (.box (.t 0)),zv 2 zf]
def q9l:IC:=zr [zv 3 (zd 1 0),zv 4 (zg 1 3),zv 5 (zq (.t 4) (zc 15)),zm 6 5,zw 6 true 7 (zd 1 3),zw 6 true 8 (zg 1 7),zw 6 true 9 (zq (.t 8) (.c (.str []))),zv 10 (.pick (.t 6) (.t 9) (.c (.bool false))),zm 11 10,zw 11 true 12 (zl 5 1),zj 11 true 13 (zk 114 [zA 12,((zc 2),.id)]),zv 14 (.pick (.t 11) (.t 13) (.c (.bool false))),zm 15 14,zw 15 true 16 (zd 1 4),zw 15 true 17 (zg 1 16),zw 15 true 18 (.iad 5 (.t 17) (zc 0)),zw 15 true 19 (zl 5 18),zj 15 true 20 (zk 77 [zA 19]),zv 21 (.pick (.t 15) (.t 20) (.c (.bool false))),zm 22 21,zw 22 true 23 (zd 1 4),zw 22 true 24 (zg 1 23),zw 22 true 25 (.iad 5 (.t 24) (zc 1)),zw 22 true 26 (zl 5 25),zj 22 true 27 (zk 79 [zA 26]),zv 28 (.pick (.t 22) (.t 27) (.c (.bool false))),zm 2 28]
def k0bl:IC:=(.seq q6l (.seq q9l .ret))
@[go_sem] def s0bl:List (RV×Co):=[(.t 2,.id)]
theorem c0bl:cFun Tryz.prog 176 = some (29,k0bl,s0bl):=by kernel_rfl

def qbke:IC:=zr [zi 1 (.box (.t 0)),zv 2 (.mov (.c (.str [])))]
def qbki:IC:=zr [zv 3 (zl 5 1),zv 4 (.bld [(.int .i64 0),(.int .i64 0),(.int .i64 0),(.str []),.nils] [(0,5,(.t 3))]),zv 5 (.mki 40 (.t 4) zN),zi 6 (zk 46 [zI 5]),zm 2 6]
def k0q:IC:=(.seq qbke (.seq qbki .ret))
@[go_sem] def s0q:List (RV×Co):=[(.t 2,.id)]
theorem c0q:cFun Tryz.prog 179 = some (7,k0q,s0q):=by kernel_rfl

def qbcv:IC:=zr [zv 2 zf]
def q1g:IC:=zr [zm 3 0,zi 4 (zk 170 [zI 3]),zm 5 4,zw 5 false 6 (zo 0),zj 5 false 7 (zk 173 [zI 6]),zv 8 (.pick (.t 5) (.c (.bool true)) (.t 7)),zm 9 8,zw 9 false 10 (zo 0),zj 9 false 11 (zk 210 [zI 10]),zv 12 (.pick (.t 9) (.c (.bool true)) (.t 11)),zm 13 12,zw 13 false 14 (zo 0),zw 13 false 15 (zq (.t 14) (.c (.int .u8 39))),zv 16 (.pick (.t 13) (.c (.bool true)) (.t 15)),zm 2 16]
def k0cw:IC:=(.seq qbcv (.seq q1g .ret))
@[go_sem] def s0cw:List (RV×Co):=[(.t 2,.id)]
theorem c0cw:cFun Tryz.prog 205 = some (17,k0cw,s0cw):=by kernel_rfl

def qbak:IC:=zr [zi 1 (.box (.t 0)),zv 2 zf]
def qbay:IC:=zr [zv 3 (zd 1 0),zv 4 (zg 1 3),zv 5 (zq (.t 4) (zc 3)),zm 6 5,zw 6 true 7 (zd 1 3),zw 6 true 8 (zg 1 7),zj 6 true 9 (zk 115 [zI 8]),zv 10 (.pick (.t 6) (.t 9) (.c (.bool false))),zm 11 10,zw 11 true 12 (zl 5 1),zj 11 true 13 (zk 114 [zA 12,((zc 1),.id)]),zv 14 (.pick (.t 11) (.t 13) (.c (.bool false))),zm 15 14,zw 15 true 16 (zd 1 4),zw 15 true 17 (zg 1 16),zw 15 true 18 (.iad 5 (.t 17) (zc 0)),zw 15 true 19 (zl 5 18),zj 15 true 20 (zk 71 [zA 19]),zv 21 (.pick (.t 15) (.t 20) (.c (.bool false))),zm 2 21]
def k0bz:IC:=(.seq qbak (.seq qbay .ret))
@[go_sem] def s0bz:List (RV×Co):=[(.t 2,.id)]
theorem c0bz:cFun Tryz.prog 206 = some (22,k0bz,s0bz):=by kernel_rfl

def qbd5:IC:=zr [zv 2 zf]
def qbad:IC:=zr [zm 3 0,zv 4 (.bin .geq .no (.t 3) (.c (.int .u8 48))),zm 5 4,zw 5 true 6 (zo 0),zw 5 true 7 (.bin .leq .no (.t 6) (.c (.int .u8 57))),zv 8 (.pick (.t 5) (.t 7) (.c (.bool false))),zm 2 8]
def k0cv:IC:=(.seq qbd5 (.seq qbad .ret))
@[go_sem] def s0cv:List (RV×Co):=[(.t 2,.id)]
theorem c0cv:cFun Tryz.prog 210 = some (9,k0cv,s0cv):=by kernel_rfl

end Go.Proofs.YtlmcofjcpadmiaaGreat
