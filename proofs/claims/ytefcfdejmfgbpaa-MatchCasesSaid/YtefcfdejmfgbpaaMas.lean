/- A text of this proof. -/
import Derived.Test.YtefcfdejmfgbpaaMah
import Derived.Test.YtefcfdejmfgbpaaProg
set_option linter.unusedVariables false
set_option linter.unusedSimpArgs false
/- The compiled code of the functions. -/
namespace Go.Proofs.Ytefcfdejmfgbpaa
open Go Go.V
@[reducible] def zm (d s:Nat):GI:=⟨none,some d,.v (.mov (.t s))⟩
@[reducible] def zv (d:Nat) (x:IV):GI:=⟨none,some d,.v x⟩
@[reducible] def zi (d:Nat) (i:I):GI:=⟨none,some d,i⟩
@[reducible] def zn (i:I):GI:=⟨none,none,i⟩
@[reducible] def zw (j:Nat) (b:Bool) (d:Nat) (x:IV):GI:=⟨some (j,b),some d,.v x⟩
@[reducible] def zp (g:GI):GI×List Nat:=(g,[])
@[reducible] def zN:Co:=.agg [.id,.id,.id,.id,(.sl 5)]
@[reducible] def zC:Co:=.agg [(.sl 4),.id,.id,.id,.id,.id,.id,.id]
@[reducible] def zaN:I:=.alo [(.int .i64 0),(.int .i64 0),(.int .i64 0),(.str []),.nils]
@[reducible] def zaC:I:=.alo [.nils,(.int .i64 0),(.int .i64 0),(.int .i64 0),(.str []),(.int .i64 0),(.int .i64 0),(.int .i64 0)]
@[reducible] def zaT:I:=.alo [(.int .i64 0),(.int .i64 0),(.int .i64 0),(.str [])]
@[reducible] def zZ:AV:=.agg [(.int .i64 0),(.int .i64 0),(.int .i64 0),(.str []),.nils]
@[reducible] def zc (n:Int):Opd:=.c (.int .i64 n)
@[reducible] def zf:IV:=.mov (.c (.bool false))
@[reducible] def zr (l:List GI):IC:=.reg false l
@[reducible] def zk (f:FuncId) (l:List (Opd×Co)):I:=.call (.c (.fn f [] [])) l
@[reducible] def zA (n:Nat):Opd×Co:=(.t n,zN)
@[reducible] def zI (n:Nat):Opd×Co:=(.t n,.id)
@[reducible] def zx (n k:Nat):IV:=.ext (.t n) k
@[reducible] def zl (n k:Nat):IV:=.ld true n (.t k)
@[reducible] def zg (n k:Nat):IV:=.ld false n (.t k)
@[reducible] def zd (n k:Nat):IV:=.fad (.t n) k
@[reducible] def zq (a b:Opd):IV:=.bin .eql .no a b
@[reducible] def zo (n:Nat):IV:=.mov (.t n)
@[reducible] def zj (j:Nat) (b:Bool) (d:Nat) (i:I):GI:=⟨some (j,b),some d,i⟩
def qbdo:IC:=zr [zi 4 (.box (.t 1)),zi 5 (.box (.t 2)),zv 6 zf]
def qr8:IC:=.drw [zp (zv 12 (.aad 3 2 (.t 5) (zc 0))),zp (zv 13 (zl 3 12)),zp (zv 14 (.aad 3 2 (.t 5) (zc 1))),zp (zv 15 (zl 3 14)),(zi 7 (.alo [(.str []),(.int .i64 0),.nils]),[1,3]),(zi 8 (.alo [(.str []),(.int .i64 0),.nils]),[1,3,4]),(zn (.st 3 (.agg [.id,.id,(.sl 3)]) (.t 7) (.t 13)),[3]),(zn (.st 3 (.agg [.id,.id,(.sl 3)]) (.t 8) (.t 15)),[])]
def qbdv:IC:=zr [zm 16 0,zv 17 (.len false (.t 16)),zv 18 (.bin .gtr .no (.t 17) (zc 10)),zm 19 18,zw 19 false 20 (zl 3 4),zw 19 false 21 (zl 3 7),zw 19 false 22 (zl 3 8),zw 19 false 23 (.bsl 3 [((.t 20),(.agg [.id,.id,(.sl 3)])),((.t 21),(.agg [.id,.id,(.sl 3)])),((.t 22),(.agg [.id,.id,(.sl 3)]))]),zj 19 false 24 (zk 4 [((.t 23),(.sl 3))]),zw 19 false 25 (zq (.t 24) (zc 0)),zv 26 (.pick (.t 19) (.c (.bool true)) (.t 25))]
def qbdr:IC:=zr [zi 27 (zk 5 []),zm 6 27]
def qbac:IC:=zr [zv 9 (.mov (zc 0))]
def qbfn:IC:=zr [zm 28 9,zm 29 0,zv 30 (.len false (.t 29)),zv 31 (.bin .lss .no (.t 28) (.t 30))]
def qbd3:IC:=zr [zm 34 0,zm 35 9,zv 36 (.iad 4 (.t 34) (.t 35)),zv 37 (zd 36 1),zv 38 (zl 3 37),zv 39 (.bsl 3 [((.t 38),(.agg [.id,.id,(.sl 3)]))]),zi 40 (zk 4 [((.t 39),(.sl 3))]),zv 41 (zq (.t 40) (zc 0))]
def qbcc:IC:=zr [zi 42 (zk 5 []),zm 6 42]
def qbej:IC:=zr [zm 32 9,zv 33 (.bin .add .no (.t 32) (zc 1)),zm 9 33]
def qbcq:IC:=(.seq (.seq qbfn (.cond (.t 31) .skip (.exit 0))) (.seq (.block 1 (.seq qbd3 (.cond (.t 41) (.seq qbcc .ret) .skip))) qbej))
def qod:IC:=.drw [zp (zm 44 0),(zi 45 (zk 6 [((.t 44),(.sl 4))]),[]),(zv 46 (zl 3 4),[1]),(zi 47 (zk 7 [zI 45,((.t 46),(.agg [.id,.id,(.sl 3)]))]),[]),zp (zm 43 47),zp (zv 48 (zx 43 0)),zp (zv 49 (zx 43 1)),(zi 10 (.alo [(.str []),(.int .i64 0),.nils]),[1,2,3]),(zn (.st 3 (.agg [.id,.id,(.sl 3)]) (.t 10) (.t 48)),[]),zp (zm 11 49)]
def q4m:IC:=zr [zm 50 11,zv 51 (zq (.t 50) (zc 0)),zm 52 51,zw 52 true 53 (zl 3 4),zw 52 true 54 (zl 3 10),zj 52 true 55 (zk 8 [((.t 53),(.agg [.id,.id,(.sl 3)])),((.t 54),(.agg [.id,.id,(.sl 3)]))]),zw 52 true 56 (.un .not (.t 55)),zv 57 (.pick (.t 52) (.t 56) (.c (.bool false)))]
def q2r:IC:=zr [zv 6 zf]
def q13:IC:=zr [zv 58 (zl 3 4),zv 59 (zl 3 7),zi 60 (zk 8 [((.t 58),(.agg [.id,.id,(.sl 3)])),((.t 59),(.agg [.id,.id,(.sl 3)]))]),zm 61 60,zw 61 true 62 (zl 3 7),zw 61 true 63 (zl 3 8),zj 61 true 64 (zk 8 [((.t 62),(.agg [.id,.id,(.sl 3)])),((.t 63),(.agg [.id,.id,(.sl 3)]))]),zv 65 (.pick (.t 61) (.t 64) (.c (.bool false))),zm 66 65,zw 66 true 67 (zl 3 4),zw 66 true 68 (zl 3 8),zj 66 true 69 (zk 8 [((.t 67),(.agg [.id,.id,(.sl 3)])),((.t 68),(.agg [.id,.id,(.sl 3)]))]),zw 66 true 70 (.un .not (.t 69)),zv 71 (.pick (.t 66) (.t 70) (.c (.bool false)))]
def q8u:IC:=zr [zv 6 zf]
def q5a:IC:=zr [zi 72 (zk 5 []),zm 6 72]
def k0a:IC:=(.seq qbdo (.seq qr8 (.seq (.seq qbdv (.cond (.t 26) (.seq qbdr .ret) .skip)) (.seq (.seq qbac (.block 0 (.loop qbcq))) (.seq qod (.seq (.seq q4m (.cond (.t 57) (.seq q2r .ret) .skip)) (.seq (.seq q13 (.cond (.t 71) (.seq q8u .ret) .skip)) (.seq q5a .ret))))))))
@[go_sem] def s0a:List (RV×Co):=[(.t 6,.id)]
theorem c0a:cFun Try.prog 3 = some (73,k0a,s0a):=by kernel_rfl

def q19:IC:=zr [zv 2 (.mov (zc 0))]
def q75:IC:=zr [zv 3 (.mov (zc 20000))]
def q3p:IC:=zr [zv 4 (.mov (zc 0))]
def q7n:IC:=zr [zm 5 4,zm 6 0,zv 7 (.len false (.t 6)),zv 8 (.bin .lss .no (.t 5) (.t 7))]
def q12:IC:=zr [zm 11 0,zm 12 4,zv 13 (.iad 3 (.t 11) (.t 12)),zv 14 (zl 3 13),zm 15 3,zi 16 (zk 9 [((.t 14),(.agg [.id,.id,(.sl 3)])),zI 15,((zc 300),.id)]),zm 3 16]
def q0q:IC:=zr [zm 9 4,zv 10 (.bin .add .no (.t 9) (zc 1)),zm 4 10]
def q7u:IC:=(.seq (.seq q7n (.cond (.t 8) .skip (.exit 0))) (.seq (.block 1 q12) q0q))
def q5z:IC:=zr [zm 17 3,zv 18 (.bin .lss .no (.t 17) (zc 0))]
def q29:IC:=zr [zv 2 (.mov (zc 0))]
def qzl:IC:=zr [zv 2 (.mov (zc 1))]
def k0be:IC:=(.seq q19 (.seq q75 (.seq (.seq q3p (.block 0 (.loop q7u))) (.seq (.seq q5z (.cond (.t 18) (.seq q29 .ret) .skip)) (.seq qzl .ret)))))
@[go_sem] def s0be:List (RV×Co):=[(.t 2,.id)]
theorem c0be:cFun Try.prog 4 = some (19,k0be,s0be):=by kernel_rfl

def qbar:IC:=zr [zv 0 zf]
def qbb8:IC:=zr [zi 8 (zk 11 [((.c (.str [97,32,45,62,32,97])),.id)]),zi 9 (zk 11 [((.c (.str [84,32,45,62,32,85])),.id)]),zi 10 (zk 10 [((.t 8),(.agg [.id,.id,(.sl 3)])),((.t 9),(.agg [.id,.id,(.sl 3)]))]),zm 7 10,zv 11 (zx 7 0),zv 12 (zx 7 1),zm 1 11,zm 2 12]
def qbb1:IC:=zr [zi 14 (zk 11 [((.c (.str [97,32,45,62,32,98])),.id)]),zi 15 (zk 11 [((.c (.str [98,32,45,62,32,84,32,97])),.id)]),zi 16 (zk 10 [((.t 14),(.agg [.id,.id,(.sl 3)])),((.t 15),(.agg [.id,.id,(.sl 3)]))]),zm 13 16,zv 17 (zx 13 0),zv 18 (zx 13 1),zm 3 17,zm 4 18]
def qbbz:IC:=zr [zm 20 3,zi 21 (zk 12 [zI 20,((zc 0),.id)]),zm 19 21,zv 22 (zx 19 0),zv 23 (zx 19 1),zi 5 (.alo [(.str []),(.int .i64 0),.nils]),zn (.st 3 (.agg [.id,.id,(.sl 3)]) (.t 5) (.t 22)),zm 6 23]
def qbah:IC:=zr [zm 24 2,zv 25 (zq (.t 24) (zc 14)),zm 26 25,zw 26 true 27 (zo 4),zw 26 true 28 (zq (.t 27) (zc 0)),zv 29 (.pick (.t 26) (.t 28) (.c (.bool false))),zm 30 29,zw 30 true 31 (zo 6),zv 32 (.pick (.t 30) (.t 31) (.c (.bool false))),zm 33 32,zw 33 true 34 (zd 5 1),zw 33 true 35 (zg 1 34),zw 33 true 36 (zq (.t 35) (zc 1)),zv 37 (.pick (.t 33) (.t 36) (.c (.bool false))),zm 38 37,zj 38 true 39 (zk 11 [((.c (.str [97])),.id)]),zj 38 true 40 (zk 11 [((.c (.str [84])),.id)]),zj 38 true 41 (zk 8 [((.t 39),(.agg [.id,.id,(.sl 3)])),((.t 40),(.agg [.id,.id,(.sl 3)]))]),zv 42 (.pick (.t 38) (.t 41) (.c (.bool false))),zm 43 42,zj 43 true 44 (zk 11 [((.c (.str [84])),.id)]),zj 43 true 45 (zk 11 [((.c (.str [97])),.id)]),zj 43 true 46 (zk 8 [((.t 44),(.agg [.id,.id,(.sl 3)])),((.t 45),(.agg [.id,.id,(.sl 3)]))]),zw 43 true 47 (.un .not (.t 46)),zv 48 (.pick (.t 43) (.t 47) (.c (.bool false))),zm 49 48,zj 49 true 50 (zk 11 [((.c (.str [97,32,45,62,32,98])),.id)]),zj 49 true 51 (zk 11 [((.c (.str [98,32,45,62,32,99])),.id)]),zj 49 true 52 (zk 13 [((.t 50),(.agg [.id,.id,(.sl 3)])),((.t 51),(.agg [.id,.id,(.sl 3)]))]),zv 53 (.pick (.t 49) (.t 52) (.c (.bool false))),zm 54 53,zj 54 true 55 (zk 11 [((.c (.str [97,32,45,62,32,98])),.id)]),zj 54 true 56 (zk 11 [((.c (.str [97,32,45,62,32,97])),.id)]),zj 54 true 57 (zk 13 [((.t 55),(.agg [.id,.id,(.sl 3)])),((.t 56),(.agg [.id,.id,(.sl 3)]))]),zw 54 true 58 (.un .not (.t 57)),zv 59 (.pick (.t 54) (.t 58) (.c (.bool false))),zm 0 59]
def k0c:IC:=(.seq qbar (.seq qbb8 (.seq qbb1 (.seq qbbz (.seq qbah .ret)))))
@[go_sem] def s0c:List (RV×Co):=[(.t 0,.id)]
theorem c0c:cFun Try.prog 5 = some (60,k0c,s0c):=by kernel_rfl

def q7c:IC:=zr [zv 2 (.mov (.c .nilp))]
def q8v:IC:=zr [zv 6 (.bld [.nils] []),zi 7 (.box (.t 6)),zm 3 7]
def q11:IC:=zr [zm 8 0,zv 9 (.len false (.t 8)),zv 10 (.mov (zc 0))]
def q78:IC:=zr [zv 11 (.bin .lss .no (.t 10) (.t 9))]
def q7w:IC:=zr [zv 12 (.iad 4 (.t 8) (.t 10)),zv 13 (zl 4 12),zi 5 (.alo [(.int .i64 0),(.str []),(.int .i64 0),.nils]),zn (.st 4 (.agg [.id,.id,.id,(.sl 3)]) (.t 5) (.t 13))]
def q3r:IC:=zr [zm 14 3,zv 15 (zd 5 0),zv 16 (zg 1 15),zv 17 (zd 5 1),zv 18 (zl 3 17),zi 19 (zk 14 [zI 14,zI 16,((.t 18),(.agg [.id,.id,(.sl 3)]))])]
def q3j:IC:=zr [zv 20 (.bin .add .no (.t 10) (zc 1)),zm 10 20]
def q8q:IC:=(.seq q78 (.seq (.cond (.t 11) .skip (.exit 0)) (.seq (.block 1 (.seq q7w q3r)) q3j)))
def q6v:IC:=zr [zm 21 3,zm 2 21]
def k0ca:IC:=(.seq q7c (.seq q8v (.seq (.seq q11 (.block 0 (.loop q8q))) (.seq q6v .ret))))
@[go_sem] def s0ca:List (RV×Co):=[(.t 2,.id)]
theorem c0ca:cFun Try.prog 6 = some (22,k0ca,s0ca):=by kernel_rfl

def q54:IC:=zr [zi 3 (.box (.t 1)),zi 4 (.alo [(.str []),(.int .i64 0),.nils]),zv 5 (.mov (zc 0))]
def q1t:IC:=zr [zv 8 (zl 3 3),zi 9 (zk 15 [((.t 8),(.agg [.id,.id,(.sl 3)]))]),zv 10 (.un .not (.t 9))]
def q4d:IC:=zr [zv 11 (.bld [(.str []),(.int .i64 0),.nils] []),zn (.st 3 (.agg [.id,.id,(.sl 3)]) (.t 4) (.t 11)),zv 5 (.mov (zc 1))]
def q32:IC:=zr [zm 12 0,zv 13 (.bld [.nilp,(.int .i64 0)] [(0,1,(.t 12)),(1,1,(zc 4096))]),zi 14 (.box (.t 13)),zm 6 14]
def q4a:IC:=zr [zm 15 6,zv 16 (zl 3 3),zi 17 (zk 16 [zI 15,((.t 16),(.agg [.id,.id,(.sl 3)])),((zc 1),.id)]),zi 7 (.alo [(.str []),(.int .i64 0),.nils]),zn (.st 3 (.agg [.id,.id,(.sl 3)]) (.t 7) (.t 17))]
def q28:IC:=zr [zm 18 6,zv 19 (.nck (.t 18)),zv 20 (zd 19 1),zv 21 (zg 1 20),zv 22 (.bin .lss .no (.t 21) (zc 0))]
def q8x:IC:=zr [zv 23 (.bld [(.str []),(.int .i64 0),.nils] []),zn (.st 3 (.agg [.id,.id,(.sl 3)]) (.t 4) (.t 23)),zv 5 (.mov (zc 2))]
def q6n:IC:=zr [zv 24 (zl 3 7),zn (.st 3 (.agg [.id,.id,(.sl 3)]) (.t 4) (.t 24)),zv 5 (.mov (zc 0))]
def k0bz:IC:=(.seq q54 (.seq (.seq q1t (.cond (.t 10) (.seq q4d .ret) .skip)) (.seq q32 (.seq q4a (.seq (.seq q28 (.cond (.t 22) (.seq q8x .ret) .skip)) (.seq q6n .ret))))))
@[go_sem] def s0bz:List (RV×Co):=[(.c true 3 4,(.agg [.id,.id,(.sl 3)])),(.t 5,.id)]
theorem c0bz:cFun Try.prog 7 = some (25,k0bz,s0bz):=by kernel_rfl

def q9g:IC:=zr [zi 2 (.box (.t 0)),zi 3 (.box (.t 1)),zv 4 zf]
def qbe3:IC:=zr [zv 8 (zl 3 2),zv 9 (zl 3 3),zi 10 (zk 10 [((.t 8),(.agg [.id,.id,(.sl 3)])),((.t 9),(.agg [.id,.id,(.sl 3)]))]),zm 7 10,zv 11 (zx 7 0),zv 12 (zx 7 1),zm 5 11,zm 6 12]
def qbdl:IC:=zr [zm 13 6,zv 14 (zq (.t 13) (zc 0)),zm 4 14]
def k0f:IC:=(.seq q9g (.seq qbe3 (.seq qbdl .ret)))
@[go_sem] def s0f:List (RV×Co):=[(.t 4,.id)]
theorem c0f:cFun Try.prog 8 = some (15,k0f,s0f):=by kernel_rfl

def q5w:IC:=zr [zi 3 (.box (.t 0)),zv 6 (.mov (zc 0))]
def q0s:IC:=zr [zm 8 1,zv 9 (.bin .sub .no (.t 8) (zc 1)),zm 1 9]
def q8g:IC:=zr [zm 10 2,zv 11 (.bin .lss .no (.t 10) (zc 1))]
def q8o:IC:=zr [zv 6 (.mov (zc (-1)))]
def q2w:IC:=zr [zv 7 (.mov (zc 0))]
def q2h:IC:=zr [zm 12 7,zv 13 (zd 3 2),zv 14 (zg 1 13),zv 15 (.len false (.t 14)),zv 16 (.bin .lss .no (.t 12) (.t 15)),zm 17 16,zw 17 true 18 (zo 1),zw 17 true 19 (.bin .geq .no (.t 18) (zc 0)),zv 20 (.pick (.t 17) (.t 19) (.c (.bool false)))]
def q1b:IC:=zr [zv 23 (zd 3 2),zv 24 (zg 1 23),zm 25 7,zv 26 (.iad 3 (.t 24) (.t 25)),zv 27 (zl 3 26),zm 28 1,zm 29 2,zv 30 (.bin .sub .no (.t 29) (zc 1)),zi 31 (zk 9 [((.t 27),(.agg [.id,.id,(.sl 3)])),zI 28,zI 30]),zm 1 31]
def q8z:IC:=zr [zm 21 7,zv 22 (.bin .add .no (.t 21) (zc 1)),zm 7 22]
def q00:IC:=(.seq (.seq q2h (.cond (.t 20) .skip (.exit 0))) (.seq (.block 1 q1b) q8z))
def qzi:IC:=zr [zm 32 1,zm 6 32]
def k0bd:IC:=(.seq q5w (.seq q0s (.seq (.seq q8g (.cond (.t 11) (.seq q8o .ret) .skip)) (.seq (.seq q2w (.block 0 (.loop q00))) (.seq qzi .ret)))))
@[go_sem] def s0bd:List (RV×Co):=[(.t 6,.id)]
theorem c0bd:cFun Try.prog 9 = some (33,k0bd,s0bd):=by kernel_rfl

def qbap:IC:=zr [zi 2 (.box (.t 0)),zi 3 (.box (.t 1)),zv 4 (.mov (.c .nilp)),zv 5 (.mov (zc 0))]
def qbfk:IC:=zr [zv 6 (zl 3 2),zv 7 (.bsl 3 [((.t 6),(.agg [.id,.id,(.sl 3)]))]),zv 8 (zl 3 3),zv 9 (.bsl 3 [((.t 8),(.agg [.id,.id,(.sl 3)]))]),zi 10 (zk 17 [((.t 7),(.sl 3)),((.t 9),(.sl 3))]),zv 11 (zx 10 0),zv 12 (zx 10 1),zm 4 11,zm 5 12]
def k0e:IC:=(.seq qbap (.seq qbfk .ret))
@[go_sem] def s0e:List (RV×Co):=[(.t 4,.id),(.t 5,.id)]
theorem c0e:cFun Try.prog 10 = some (13,k0e,s0e):=by kernel_rfl

def qbbm:IC:=zr [zi 2 (.alo [(.str []),(.int .i64 0),.nils])]
def qbei:IC:=zr [zm 6 0,zi 7 (zk 18 [zI 6]),zm 5 7,zv 8 (zx 5 0),zv 9 (zx 5 1),zi 3 (.alo [(.str []),(.int .i64 0),.nils]),zn (.st 3 (.agg [.id,.id,(.sl 3)]) (.t 3) (.t 8)),zm 4 9]
def qbbf:IC:=zr [zv 10 (zl 3 3),zn (.st 3 (.agg [.id,.id,(.sl 3)]) (.t 2) (.t 10))]
def k0b:IC:=(.seq qbbm (.seq qbei (.seq qbbf .ret)))
@[go_sem] def s0b:List (RV×Co):=[(.c true 3 2,(.agg [.id,.id,(.sl 3)]))]
theorem c0b:cFun Try.prog 11 = some (11,k0b,s0b):=by kernel_rfl

def qbe0:IC:=zr [zi 4 (.alo [(.str []),(.int .i64 0),.nils]),zv 5 zf]
def qbc4:IC:=zr [zm 8 0,zv 9 (.bin .eql .ptr (.t 8) (.c .nilp))]
def qbdk:IC:=zr [zv 10 (.bld [(.str []),(.int .i64 0),.nils] []),zn (.st 3 (.agg [.id,.id,(.sl 3)]) (.t 4) (.t 10)),zv 5 zf]
def qbb0:IC:=zr [zm 12 0,zm 13 1,zi 14 (zk 19 [zI 12,zI 13]),zm 11 14,zv 15 (zx 11 0),zv 16 (zx 11 1),zm 6 15,zm 7 16]
def qbby:IC:=zr [zm 17 7,zv 18 (.un .not (.t 17))]
def qbfm:IC:=zr [zv 19 (.bld [(.str []),(.int .i64 0),.nils] []),zn (.st 3 (.agg [.id,.id,(.sl 3)]) (.t 4) (.t 19)),zv 5 zf]
def qbfo:IC:=zr [zm 20 0,zv 21 (.nck (.t 20)),zv 22 (zd 21 0),zv 23 (zg 1 22),zm 24 6,zv 25 (.iad 4 (.t 23) (.t 24)),zv 26 (zd 25 1),zv 27 (zl 3 26),zn (.st 3 (.agg [.id,.id,(.sl 3)]) (.t 4) (.t 27)),zv 5 (.mov (.c (.bool true)))]
def k0o:IC:=(.seq qbe0 (.seq (.seq qbc4 (.cond (.t 9) (.seq qbdk .ret) .skip)) (.seq qbb0 (.seq (.seq qbby (.cond (.t 18) (.seq qbfm .ret) .skip)) (.seq qbfo .ret)))))
@[go_sem] def s0o:List (RV×Co):=[(.c true 3 4,(.agg [.id,.id,(.sl 3)])),(.t 5,.id)]
theorem c0o:cFun Try.prog 12 = some (28,k0o,s0o):=by kernel_rfl

def qbaq:IC:=zr [zi 2 (.box (.t 0)),zi 3 (.box (.t 1)),zv 4 zf]
def qbfw:IC:=zr [zv 5 (zl 3 2),zv 6 (zl 3 3),zi 7 (zk 8 [((.t 5),(.agg [.id,.id,(.sl 3)])),((.t 6),(.agg [.id,.id,(.sl 3)]))]),zm 8 7,zw 8 true 9 (zl 3 3),zw 8 true 10 (zl 3 2),zj 8 true 11 (zk 8 [((.t 9),(.agg [.id,.id,(.sl 3)])),((.t 10),(.agg [.id,.id,(.sl 3)]))]),zv 12 (.pick (.t 8) (.t 11) (.c (.bool false))),zm 4 12]
def k0g:IC:=(.seq qbaq (.seq qbfw .ret))
@[go_sem] def s0g:List (RV×Co):=[(.t 4,.id)]
theorem c0g:cFun Try.prog 13 = some (13,k0g,s0g):=by kernel_rfl

def qbdh:IC:=zr [zi 5 (.box (.t 2)),zv 6 (.mov (zc 0))]
def qbc7:IC:=zr [zm 9 0,zv 10 (.bin .eql .ptr (.t 9) (.c .nilp)),zm 11 10,zw 11 false 12 (zl 3 5),zj 11 false 13 (zk 15 [((.t 12),(.agg [.id,.id,(.sl 3)]))]),zw 11 false 14 (.un .not (.t 13)),zv 15 (.pick (.t 11) (.c (.bool true)) (.t 14))]
def qbeq:IC:=zr [zv 6 (.mov (zc 1))]
def qbcm:IC:=zr [zm 17 0,zm 18 1,zi 19 (zk 19 [zI 17,zI 18]),zm 16 19,zv 20 (zx 16 0),zv 21 (zx 16 1),zm 7 20,zm 8 21]
def qbfs:IC:=zr [zm 22 8]
def qbdq:IC:=zr [zv 6 (.mov (zc 6))]
def qbal:IC:=.drw [zp (zm 23 0),zp (zm 24 0),zp (zv 25 (.nck (.t 24))),zp (zv 26 (zd 25 0)),zp (zv 27 (zg 1 26)),zp (zm 28 7),zp (zm 29 1),zp (zv 30 (zl 3 5)),(zi 31 (zk 21 [((.t 30),(.agg [.id,.id,(.sl 3)]))]),[4]),(zv 32 (.bld [(.int .i64 0),(.str []),(.int .i64 0),.nils] [(0,1,(.t 29)),(1,3,(.t 31))]),[]),(zv 33 (.bsl 4 [((.t 32),(.agg [.id,.id,.id,(.sl 3)]))]),[]),(zi 34 (zk 20 [((.t 27),(.sl 4)),zI 28,((.t 33),(.sl 4))]),[]),zp (zv 35 (.nck (.t 23))),zp (zv 36 (zd 35 0)),(zn (.st 1 (.sl 4) (.t 36) (.t 34)),[])]
def q9k:IC:=zr [zv 6 (.mov (zc 0))]
def k0n:IC:=(.seq qbdh (.seq (.seq qbc7 (.cond (.t 15) (.seq qbeq .ret) .skip)) (.seq qbcm (.seq (.seq qbfs (.cond (.t 22) (.seq qbdq .ret) .skip)) (.seq qbal (.seq q9k .ret))))))
@[go_sem] def s0n:List (RV×Co):=[(.t 6,.id)]
theorem c0n:cFun Try.prog 14 = some (37,k0n,s0n):=by kernel_rfl

def q2u:IC:=zr [zi 1 (.box (.t 0)),zv 2 zf]
def q5e:IC:=zr [zi 3 (.alo [(.int .i64 0)]),zn (.st 1 .id (.t 3) (zc 0))]
def q1i:IC:=zr [zv 4 (zl 3 1),zv 5 (.mfn 23 [] [(.t 3)]),zi 6 (zk 22 [((.t 4),(.agg [.id,.id,(.sl 3)])),((zc 1),.id),zI 5]),zm 2 6]
def k0ba:IC:=(.seq q2u (.seq q5e (.seq q1i .ret)))
@[go_sem] def s0ba:List (RV×Co):=[(.t 2,.id)]
theorem c0ba:cFun Try.prog 15 = some (7,k0ba,s0ba):=by kernel_rfl

def q68:IC:=zr [zi 4 (.box (.t 1)),zi 6 (.alo [(.str []),(.int .i64 0),.nils])]
def q4k:IC:=zr [zv 11 (zd 4 0),zv 12 (zg 1 11),zv 13 (zq (.t 12) (.c (.str [])))]
def q7r:IC:=.drw [zp (zm 15 0),zp (zv 16 (.nck (.t 15))),zp (zv 17 (zd 16 0)),zp (zv 18 (zg 1 17)),zp (zv 19 (zd 4 1)),zp (zv 20 (zg 1 19)),(zi 21 (zk 12 [zI 18,zI 20]),[]),zp (zm 14 21),zp (zv 22 (zx 14 0)),zp (zv 23 (zx 14 1)),(zi 7 (.alo [(.str []),(.int .i64 0),.nils]),[3,5,6]),(zn (.st 3 (.agg [.id,.id,(.sl 3)]) (.t 7) (.t 22)),[]),zp (zm 8 23)]
def q7k:IC:=zr [zm 24 8]
def q7g:IC:=.drw [zp (zm 25 0),zp (zv 26 (.nck (.t 25))),zp (zv 27 (zd 26 1)),zp (zv 28 (zg 1 27)),zp (zv 29 (zl 3 7)),(zi 30 (zk 26 [((.t 29),(.agg [.id,.id,(.sl 3)]))]),[3]),zp (zv 31 (.bin .sub .no (.t 28) (.t 30))),zp (zv 32 (.nck (.t 25))),zp (zv 33 (zd 32 1)),(zn (.st 1 .id (.t 33) (.t 31)),[])]
def q4r:IC:=zr [zm 34 2,zv 35 (zl 3 7),zi 36 (zk 27 [((.t 35),(.agg [.id,.id,(.sl 3)]))]),zv 37 (.bin .add .no (.t 34) (.t 36)),zv 38 (.bin .gtr .no (.t 37) (zc 101))]
def q4g:IC:=zr [zm 39 0,zv 40 (.nck (.t 39)),zv 41 (zd 40 1),zn (.st 1 .id (.t 41) (zc (-1)))]
def q61:IC:=zr [zv 42 (zl 3 7),zi 43 (zk 21 [((.t 42),(.agg [.id,.id,(.sl 3)]))]),zn (.st 3 (.agg [.id,.id,(.sl 3)]) (.t 6) (.t 43))]
def q17:IC:=zr [zm 44 0,zv 45 (.nck (.t 44)),zv 46 (zd 45 1),zv 47 (zg 1 46),zv 48 (.bin .sub .no (.t 47) (zc 1)),zv 49 (.nck (.t 44)),zv 50 (zd 49 1),zn (.st 1 .id (.t 50) (.t 48))]
def q2y:IC:=zr [zv 51 (zd 4 2),zv 52 (zg 1 51),zv 53 (.len false (.t 52)),zi 54 (.mks 3 (.agg [(.str []),(.int .i64 0),.nils]) 48 (.t 53) (.t 53)),zm 9 54]
def qzs:IC:=zr [zv 55 (zd 4 2),zv 56 (zg 1 55),zv 57 (.len false (.t 56)),zv 58 (.mov (zc 0))]
def qxi:IC:=zr [zv 59 (.bin .lss .no (.t 58) (.t 57))]
def qwt:IC:=zr [zm 60 58,zm 10 60]
def qyd:IC:=zr [zm 61 0,zv 62 (.nck (.t 61)),zv 63 (zd 62 1),zv 64 (zg 1 63),zv 65 (.bin .lss .no (.t 64) (zc 0))]
def qw6:IC:=zr [zv 66 (zl 3 4),zn (.st 3 (.agg [.id,.id,(.sl 3)]) (.t 6) (.t 66))]
def qxj:IC:=zr [zm 67 9,zm 68 10,zm 69 0,zv 70 (zd 4 2),zv 71 (zg 1 70),zm 72 10,zv 73 (.iad 3 (.t 71) (.t 72)),zv 74 (zl 3 73),zm 75 2,zv 76 (.bin .add .no (.t 75) (zc 1)),zi 77 (zk 16 [zI 69,((.t 74),(.agg [.id,.id,(.sl 3)])),zI 76]),zv 78 (.iad 3 (.t 67) (.t 68)),zn (.st 3 (.agg [.id,.id,(.sl 3)]) (.t 78) (.t 77))]
def qyt:IC:=zr [zv 79 (.bin .add .no (.t 58) (zc 1)),zm 58 79]
def qzq:IC:=(.seq qxi (.seq (.cond (.t 59) .skip (.exit 0)) (.seq (.block 1 (.seq qwt (.seq (.seq qyd (.cond (.t 65) (.seq qw6 .ret) .skip)) qxj))) qyt)))
def qxn:IC:=zr [zm 80 9,zv 81 (zd 4 2),zn (.st 1 (.sl 3) (.t 81) (.t 80))]
def qyj:IC:=zr [zv 82 (zl 3 4),zn (.st 3 (.agg [.id,.id,(.sl 3)]) (.t 6) (.t 82))]
def k0cb:IC:=(.seq q68 (.seq (.seq q4k (.cond (.t 13) (.seq q7r (.seq q7k (.cond (.t 24) (.seq q7g (.seq (.seq q4r (.cond (.t 38) q4g .skip)) (.seq q61 .ret))) .skip))) .skip)) (.seq q17 (.seq q2y (.seq (.seq qzs (.block 0 (.loop qzq))) (.seq qxn (.seq qyj .ret)))))))
@[go_sem] def s0cb:List (RV×Co):=[(.c true 3 6,(.agg [.id,.id,(.sl 3)]))]
theorem c0cb:cFun Try.prog 16 = some (83,k0cb,s0cb):=by kernel_rfl

def q9a:IC:=zr [zv 4 (.mov (.c .nilp)),zv 5 (.mov (zc 0))]
def qba3:IC:=zr [zm 7 0,zi 8 (zk 28 [((.t 7),(.sl 3))]),zv 9 (.un .not (.t 8)),zm 10 9,zw 10 false 11 (zo 1),zj 10 false 12 (zk 28 [((.t 11),(.sl 3))]),zw 10 false 13 (.un .not (.t 12)),zv 14 (.pick (.t 10) (.c (.bool true)) (.t 13))]
def qbbw:IC:=zr [zv 4 (.mov (.c .nilp)),zv 5 (.mov (zc 1))]
def qbdi:IC:=zr [zi 15 (zk 6 [((.c .nils),(.sl 4))]),zi 6 (.alo [.nilp]),zn (.st 1 .id (.t 6) (.t 15))]
def qbee:IC:=zr [zm 16 0,zm 17 1,zv 18 (.mfn 30 [] [(.t 6)]),zi 19 (zk 29 [((.t 16),(.sl 3)),((.t 17),(.sl 3)),zI 18]),zv 20 (.un .not (.t 19))]
def qbfz:IC:=zr [zv 4 (.mov (.c .nilp)),zv 5 (.mov (zc 14))]
def qbc3:IC:=zr [zv 21 (zg 1 6),zm 4 21,zv 5 (.mov (zc 0))]
def k0d:IC:=(.seq q9a (.seq (.seq qba3 (.cond (.t 14) (.seq qbbw .ret) .skip)) (.seq qbdi (.seq (.seq qbee (.cond (.t 20) (.seq qbfz .ret) .skip)) (.seq qbc3 .ret)))))
@[go_sem] def s0d:List (RV×Co):=[(.t 4,.id),(.t 5,.id)]
theorem c0d:cFun Try.prog 17 = some (22,k0d,s0d):=by kernel_rfl

def q51:IC:=zr [zi 2 (.alo [(.str []),(.int .i64 0),.nils]),zv 3 (.mov (zc 0))]
def q2n:IC:=zr [zm 6 0,zv 7 (.bld [(.str []),(.int .i64 0),(.bool false)] [(0,1,(.t 6))]),zi 8 (.box (.t 7)),zm 4 8]
def q64:IC:=zr [zm 9 4,zi 10 (zk 32 [zI 9]),zi 5 (.alo [(.str []),(.int .i64 0),.nils]),zn (.st 3 (.agg [.id,.id,(.sl 3)]) (.t 5) (.t 10))]
def q8f:IC:=zr [zm 11 4,zv 12 (.nck (.t 11)),zv 13 (zd 12 2),zv 14 (zg 1 13),zm 15 14,zw 15 false 16 (zo 4),zw 15 false 17 (.nck (.t 16)),zw 15 false 18 (zd 17 0),zw 15 false 19 (zg 1 18),zw 15 false 20 (.bin .neq .no (.t 19) (.c (.str []))),zv 21 (.pick (.t 15) (.c (.bool true)) (.t 20)),zm 22 21,zw 22 false 23 (zl 3 5),zj 22 false 24 (zk 33 [((.t 23),(.agg [.id,.id,(.sl 3)]))]),zw 22 false 25 (zo 0),zw 22 false 26 (.bin .neq .no (.t 24) (.t 25)),zv 27 (.pick (.t 22) (.c (.bool true)) (.t 26))]
def q6m:IC:=zr [zv 28 (.bld [(.str []),(.int .i64 0),.nils] []),zn (.st 3 (.agg [.id,.id,(.sl 3)]) (.t 2) (.t 28)),zv 3 (.mov (zc 5))]
def q8h:IC:=zr [zv 29 (zl 3 5),zn (.st 3 (.agg [.id,.id,(.sl 3)]) (.t 2) (.t 29)),zv 3 (.mov (zc 0))]
def k0cd:IC:=(.seq q51 (.seq q2n (.seq q64 (.seq (.seq q8f (.cond (.t 27) (.seq q6m .ret) .skip)) (.seq q8h .ret)))))
@[go_sem] def s0cd:List (RV×Co):=[(.c true 3 2,(.agg [.id,.id,(.sl 3)])),(.t 3,.id)]
theorem c0cd:cFun Try.prog 18 = some (30,k0cd,s0cd):=by kernel_rfl

def q93:IC:=zr [zv 4 (.mov (zc 0)),zv 5 zf]
def qbcp:IC:=zr [zm 6 0,zv 7 (.nck (.t 6)),zv 8 (zd 7 0),zv 9 (zg 1 8),zm 10 1,zi 11 (zk 34 [((.t 9),(.sl 4)),zI 10,((.c (.fn 35 [] [])),.id)]),zv 12 (zx 11 0),zv 13 (zx 11 1),zm 4 12,zm 5 13]
def k0q:IC:=(.seq q93 (.seq qbcp .ret))
@[go_sem] def s0q:List (RV×Co):=[(.t 4,.id),(.t 5,.id)]
theorem c0q:cFun Try.prog 19 = some (14,k0q,s0q):=by kernel_rfl

def q99:IC:=zr [zi 1 (.box (.t 0)),zi 2 (.alo [(.str []),(.int .i64 0),.nils])]
def qbcs:IC:=zr [zv 6 (zd 1 2),zv 7 (zg 1 6),zv 8 (.len false (.t 7)),zi 9 (.mks 3 (.agg [(.str []),(.int .i64 0),.nils]) 48 (.t 8) (.t 8)),zm 3 9]
def q9m:IC:=zr [zv 10 (zd 1 2),zv 11 (zg 1 10),zv 12 (.len false (.t 11)),zv 13 (.mov (zc 0))]
def q90:IC:=zr [zv 14 (.bin .lss .no (.t 13) (.t 12))]
def qbbd:IC:=zr [zm 15 13,zv 16 (.iad 3 (.t 11) (.t 13)),zv 17 (zl 3 16),zi 5 (.alo [(.str []),(.int .i64 0),.nils]),zm 4 15,zn (.st 3 (.agg [.id,.id,(.sl 3)]) (.t 5) (.t 17))]
def qbbk:IC:=zr [zm 18 3,zm 19 4,zv 20 (zl 3 5),zi 21 (zk 21 [((.t 20),(.agg [.id,.id,(.sl 3)]))]),zv 22 (.iad 3 (.t 18) (.t 19)),zn (.st 3 (.agg [.id,.id,(.sl 3)]) (.t 22) (.t 21))]
def q9v:IC:=zr [zv 23 (.bin .add .no (.t 13) (zc 1)),zm 13 23]
def qbce:IC:=(.seq q90 (.seq (.cond (.t 14) .skip (.exit 0)) (.seq (.block 1 (.seq qbbd qbbk)) q9v)))
def q9q:IC:=zr [zm 24 3,zv 25 (zd 1 2),zn (.st 1 (.sl 3) (.t 25) (.t 24))]
def q4c:IC:=zr [zv 26 (zl 3 1),zn (.st 3 (.agg [.id,.id,(.sl 3)]) (.t 2) (.t 26))]
def k0s:IC:=(.seq q99 (.seq qbcs (.seq (.seq q9m (.block 0 (.loop qbce))) (.seq q9q (.seq q4c .ret)))))
@[go_sem] def s0s:List (RV×Co):=[(.c true 3 2,(.agg [.id,.id,(.sl 3)]))]
theorem c0s:cFun Try.prog 21 = some (27,k0s,s0s):=by kernel_rfl

def q4v:IC:=zr [zi 3 (.box (.t 0)),zv 6 zf]
def q6k:IC:=zr [zm 9 2,zv 10 (zl 3 3),zm 11 1,zi 12 (.call (.t 9) [((.t 10),(.agg [.id,.id,(.sl 3)])),zI 11]),zv 13 (.un .not (.t 12))]
def q1l:IC:=zr [zv 6 zf]
def q10:IC:=zr [zv 14 (zd 3 2),zv 15 (zg 1 14),zv 16 (.len false (.t 15)),zv 17 (.mov (zc 0))]
def q3d:IC:=zr [zv 18 (.bin .lss .no (.t 17) (.t 16))]
def q15:IC:=zr [zv 19 (.iad 3 (.t 15) (.t 17)),zv 20 (zl 3 19),zi 8 (.alo [(.str []),(.int .i64 0),.nils]),zn (.st 3 (.agg [.id,.id,(.sl 3)]) (.t 8) (.t 20))]
def q01:IC:=zr [zv 21 (zl 3 8),zm 22 1,zv 23 (.bin .add .no (.t 22) (zc 1)),zm 24 2,zi 25 (zk 22 [((.t 21),(.agg [.id,.id,(.sl 3)])),zI 23,zI 24]),zv 26 (.un .not (.t 25))]
def q4p:IC:=zr [zv 6 zf]
def q03:IC:=zr [zv 27 (.bin .add .no (.t 17) (zc 1)),zm 17 27]
def q8l:IC:=(.seq q3d (.seq (.cond (.t 18) .skip (.exit 0)) (.seq (.block 1 (.seq q15 (.seq q01 (.cond (.t 26) (.seq q4p .ret) .skip)))) q03)))
def qz0:IC:=zr [zv 6 (.mov (.c (.bool true)))]
def k0bj:IC:=(.seq q4v (.seq (.seq q6k (.cond (.t 13) (.seq q1l .ret) .skip)) (.seq (.seq q10 (.block 0 (.loop q8l))) (.seq qz0 .ret))))
@[go_sem] def s0bj:List (RV×Co):=[(.t 6,.id)]
theorem c0bj:cFun Try.prog 22 = some (28,k0bj,s0bj):=by kernel_rfl

def qbc8:IC:=zr [zi 3 (.box (.t 0)),zv 5 zf]
def qbae:IC:=zr [zv 6 (zg 1 2),zv 7 (.bin .add .no (.t 6) (zc 1)),zn (.st 1 .id (.t 2) (.t 7))]
def qbes:IC:=zr [zv 8 (zg 1 2),zv 9 (.bin .leq .no (.t 8) (zc 4096)),zm 10 9,zw 10 true 11 (zo 1),zw 10 true 12 (.bin .leq .no (.t 11) (zc 100)),zv 13 (.pick (.t 10) (.t 12) (.c (.bool false))),zm 14 13,zw 14 true 15 (zl 3 3),zj 14 true 16 (zk 24 [((.t 15),(.agg [.id,.id,(.sl 3)]))]),zj 14 true 17 (zk 25 [zI 16]),zv 18 (.pick (.t 14) (.t 17) (.c (.bool false))),zm 5 18]
def k0x:IC:=(.seq qbc8 (.seq qbae (.seq qbes .ret)))
@[go_sem] def s0x:List (RV×Co):=[(.t 5,.id)]
theorem c0x:cFun Try.prog 23 = some (19,k0x,s0x):=by kernel_rfl

def q8t:IC:=zr [zi 1 (.box (.t 0)),zi 2 (.alo [(.str []),(.int .i64 0),(.int .i64 0)])]
def q66:IC:=zr [zv 3 (zd 1 0),zv 4 (zg 1 3),zv 5 (zd 1 1),zv 6 (zg 1 5),zv 7 (zd 1 2),zv 8 (zg 1 7),zv 9 (.len false (.t 8)),zv 10 (.bld [(.str []),(.int .i64 0),(.int .i64 0)] [(0,1,(.t 4)),(1,1,(.t 6)),(2,1,(.t 9))]),zn (.st 3 .id (.t 2) (.t 10))]
def k0bf:IC:=(.seq q8t (.seq q66 .ret))
@[go_sem] def s0bf:List (RV×Co):=[(.c true 3 2,.id)]
theorem c0bf:cFun Try.prog 24 = some (11,k0bf,s0bf):=by kernel_rfl

def q46:IC:=zr [zi 1 (.box (.t 0)),zv 2 zf]
def q5u:IC:=zr [zv 4 (zd 1 0),zv 5 (zg 1 4),zv 6 (zq (.t 5) (.c (.str []))),zm 3 6]
def q3x:IC:=zr [zv 7 (zd 1 2),zv 8 (zg 1 7),zv 9 (zq (.t 8) (zc 0)),zm 2 9]
def q38:IC:=zr [zv 11 (zd 1 0),zv 12 (zg 1 11),zv 13 (zq (.t 12) (.c (.str [45,62]))),zm 10 13]
def q0z:IC:=zr [zv 14 (zl 3 1),zv 15 (.bld [(.str []),(.int .i64 0),(.int .i64 0)] [(0,1,(.c (.str [45,62]))),(1,1,(zc 0)),(2,1,(zc 2))]),zv 16 (.bin .eql (.cells [.str,(.int .i64),(.int .i64)]) (.t 14) (.t 15)),zm 2 16]
def q5p:IC:=zr [zv 18 (zd 1 0),zv 19 (zg 1 18),zi 20 (zk 38 [zI 19]),zm 17 20]
def q2f:IC:=zr [zv 21 (zl 3 1),zv 22 (zd 1 0),zv 23 (zg 1 22),zv 24 (.bld [(.str []),(.int .i64 0),(.int .i64 0)] [(0,1,(.t 23))]),zv 25 (.bin .eql (.cells [.str,(.int .i64),(.int .i64)]) (.t 21) (.t 24)),zm 2 25]
def q6p:IC:=zr [zv 26 (zd 1 1),zv 27 (zg 1 26),zv 28 (zq (.t 27) (zc 0)),zm 29 28,zw 29 true 30 (zd 1 0),zw 29 true 31 (zg 1 30),zj 29 true 32 (zk 39 [zI 31]),zv 33 (.pick (.t 29) (.t 32) (.c (.bool false))),zm 2 33]
def k0bi:IC:=(.seq q46 (.seq (.block 0 (.seq q5u (.cond (.t 3) (.seq q3x .ret) (.seq q38 (.cond (.t 10) (.seq q0z .ret) (.seq q5p (.cond (.t 17) (.seq q2f .ret) .skip))))))) (.seq q6p .ret)))
@[go_sem] def s0bi:List (RV×Co):=[(.t 2,.id)]
theorem c0bi:cFun Try.prog 25 = some (34,k0bi,s0bi):=by kernel_rfl

def q5y:IC:=zr [zi 1 (.box (.t 0)),zv 2 (.mov (zc 0))]
def q7p:IC:=zr [zi 3 (.alo [(.int .i64 0)]),zn (.st 1 .id (.t 3) (zc 0))]
def q3e:IC:=zr [zv 4 (zl 3 1),zv 5 (.mfn 40 [] [(.t 3)]),zi 6 (zk 22 [((.t 4),(.agg [.id,.id,(.sl 3)])),((zc 1),.id),zI 5])]
def q1k:IC:=zr [zv 7 (zg 1 3),zm 2 7]
def k0bb:IC:=(.seq q5y (.seq q7p (.seq q3e (.seq q1k .ret))))
@[go_sem] def s0bb:List (RV×Co):=[(.t 2,.id)]
theorem c0bb:cFun Try.prog 26 = some (8,k0bb,s0bb):=by kernel_rfl

def q0x:IC:=zr [zi 1 (.box (.t 0)),zv 2 (.mov (zc 0))]
def q67:IC:=zr [zi 3 (.alo [(.int .i64 0)]),zn (.st 1 .id (.t 3) (zc 0))]
def q1c:IC:=zr [zv 4 (zl 3 1),zv 5 (.mfn 41 [] [(.t 3)]),zi 6 (zk 22 [((.t 4),(.agg [.id,.id,(.sl 3)])),((zc 1),.id),zI 5])]
def q5i:IC:=zr [zv 7 (zg 1 3),zm 2 7]
def k0bc:IC:=(.seq q0x (.seq q67 (.seq q1c (.seq q5i .ret))))
@[go_sem] def s0bc:List (RV×Co):=[(.t 2,.id)]
theorem c0bc:cFun Try.prog 27 = some (8,k0bc,s0bc):=by kernel_rfl

def qbak:IC:=zr [zv 2 zf]
def q98:IC:=zr [zm 3 0,zm 4 0,zi 5 (zk 29 [((.t 3),(.sl 3)),((.t 4),(.sl 3)),((.c (.fn 42 [] [])),.id)]),zm 2 5]
def k0j:IC:=(.seq qbak (.seq q98 .ret))
@[go_sem] def s0j:List (RV×Co):=[(.t 2,.id)]
theorem c0j:cFun Try.prog 28 = some (6,k0j,s0j):=by kernel_rfl

def qbc9:IC:=zr [zv 6 zf]
def qbdy:IC:=zr [zm 8 0,zv 9 (.len false (.t 8)),zm 10 1,zv 11 (.len false (.t 10)),zv 12 (.bin .neq .no (.t 9) (.t 11))]
def qbd4:IC:=zr [zv 6 zf]
def qbcu:IC:=zr [zm 13 0,zv 14 (.len false (.t 13)),zv 15 (.mov (zc 0))]
def qbad:IC:=zr [zv 16 (.bin .lss .no (.t 15) (.t 14))]
def qbbh:IC:=zr [zm 17 15,zm 7 17]
def q9h:IC:=.drw [zp (zm 18 2),zp (zm 19 0),zp (zm 20 7),zp (zv 21 (.iad 3 (.t 19) (.t 20))),zp (zv 22 (zl 3 21)),zp (zm 23 1),zp (zm 24 7),zp (zv 25 (.iad 3 (.t 23) (.t 24))),zp (zv 26 (zl 3 25)),(zi 27 (.call (.t 18) [((.t 22),(.agg [.id,.id,(.sl 3)])),((.t 26),(.agg [.id,.id,(.sl 3)]))]),[]),zp (zv 28 (.un .not (.t 27)))]
def qbfh:IC:=zr [zv 6 zf]
def qbab:IC:=zr [zv 29 (.bin .add .no (.t 15) (zc 1)),zm 15 29]
def qbd1:IC:=(.seq qbad (.seq (.cond (.t 16) .skip (.exit 0)) (.seq (.block 1 (.seq qbbh (.seq q9h (.cond (.t 28) (.seq qbfh .ret) .skip)))) qbab)))
def q8s:IC:=zr [zv 6 (.mov (.c (.bool true)))]
def k0i:IC:=(.seq qbc9 (.seq (.seq qbdy (.cond (.t 12) (.seq qbd4 .ret) .skip)) (.seq (.seq qbcu (.block 0 (.loop qbd1))) (.seq q8s .ret))))
@[go_sem] def s0i:List (RV×Co):=[(.t 6,.id)]
theorem c0i:cFun Try.prog 29 = some (30,k0i,s0i):=by kernel_rfl

def q96:IC:=zr [zi 3 (.box (.t 0)),zi 4 (.box (.t 1)),zv 5 zf]
def qba4:IC:=zr [zv 6 (zg 1 2),zv 7 (zl 3 3),zv 8 (zl 3 4),zi 9 (zk 31 [zI 6,((.t 7),(.agg [.id,.id,(.sl 3)])),((.t 8),(.agg [.id,.id,(.sl 3)]))]),zm 5 9]
def k0l:IC:=(.seq q96 (.seq qba4 .ret))
@[go_sem] def s0l:List (RV×Co):=[(.t 5,.id)]
theorem c0l:cFun Try.prog 30 = some (10,k0l,s0l):=by kernel_rfl

def qba0:IC:=zr [zi 3 (.box (.t 0)),zi 4 (.box (.t 1)),zi 5 (.box (.t 2)),zv 6 zf]
def qbag:IC:=zr [zv 9 (zd 4 0),zv 10 (zg 1 9),zv 11 (zq (.t 10) (.c (.str [])))]
def qbfi:IC:=zr [zv 13 (zg 1 3),zv 14 (zd 4 1),zv 15 (zg 1 14),zi 16 (zk 12 [zI 13,zI 15]),zm 12 16,zv 17 (zx 12 0),zv 18 (zx 12 1),zi 7 (.alo [(.str []),(.int .i64 0),.nils]),zn (.st 3 (.agg [.id,.id,(.sl 3)]) (.t 7) (.t 17)),zm 8 18]
def qbfc:IC:=zr [zm 19 8]
def q9o:IC:=zr [zv 20 (zl 3 7),zv 21 (zl 3 5),zi 22 (zk 43 [((.t 20),(.agg [.id,.id,(.sl 3)])),((.t 21),(.agg [.id,.id,(.sl 3)]))]),zm 6 22]
def qbb5:IC:=zr [zv 23 (zg 1 3),zv 24 (zd 4 1),zv 25 (zg 1 24),zv 26 (zl 3 5),zi 27 (zk 14 [zI 23,zI 25,((.t 26),(.agg [.id,.id,(.sl 3)]))]),zv 28 (zq (.t 27) (zc 0)),zm 6 28]
def qba1:IC:=zr [zv 29 (zd 4 0),zv 30 (zg 1 29),zv 31 (zd 5 0),zv 32 (zg 1 31),zv 33 (zq (.t 30) (.t 32)),zm 34 33,zw 34 true 35 (zd 4 2),zw 34 true 36 (zg 1 35),zw 34 true 37 (zd 5 2),zw 34 true 38 (zg 1 37),zw 34 true 39 (.mfn 44 [] [(.t 3)]),zj 34 true 40 (zk 29 [((.t 36),(.sl 3)),((.t 38),(.sl 3)),zI 39]),zv 41 (.pick (.t 34) (.t 40) (.c (.bool false))),zm 6 41]
def k0m:IC:=(.seq qba0 (.seq (.seq qbag (.cond (.t 11) (.seq qbfi (.seq (.seq qbfc (.cond (.t 19) (.seq q9o .ret) .skip)) (.seq qbb5 .ret))) .skip)) (.seq qba1 .ret)))
@[go_sem] def s0m:List (RV×Co):=[(.t 6,.id)]
theorem c0m:cFun Try.prog 31 = some (42,k0m,s0m):=by kernel_rfl

def q1m:IC:=zr [zi 1 (.box (.t 0)),zi 2 (.alo [(.str []),(.int .i64 0),.nils])]
def q6l:IC:=zr [zv 4 (zg 1 1),zv 5 (.nck (.t 4)),zv 6 (zd 5 1),zv 7 (zg 1 6),zv 8 (.bin .add .no (.t 7) (zc 1)),zv 9 (.nck (.t 4)),zv 10 (zd 9 1),zn (.st 1 .id (.t 10) (.t 8))]
def q0w:IC:=zr [zv 11 (zg 1 1),zv 12 (.nck (.t 11)),zv 13 (zd 12 1),zv 14 (zg 1 13),zv 15 (.bin .gtr .no (.t 14) (zc 200))]
def q6u:IC:=zr [zv 16 (zg 1 1),zv 17 (.nck (.t 16)),zv 18 (zd 17 2),zn (.st 1 .id (.t 18) (.c (.bool true)))]
def q39:IC:=.dfr [zv 19 (.mfn 45 [] [(.t 1)])] (.t 19)
def q4z:IC:=zr [zv 20 (zg 1 1),zv 21 (.nck (.t 20)),zv 22 (zd 21 2),zv 23 (zg 1 22)]
def q45:IC:=zr [zv 24 (.bld [(.str []),(.int .i64 0),.nils] []),zn (.st 3 (.agg [.id,.id,(.sl 3)]) (.t 2) (.t 24))]
def q3w:IC:=zr [zv 25 (zg 1 1),zi 26 (zk 46 [zI 25]),zi 3 (.alo [(.str []),(.int .i64 0),.nils]),zn (.st 3 (.agg [.id,.id,(.sl 3)]) (.t 3) (.t 26))]
def q3t:IC:=zr [zv 27 (zg 1 1),zv 28 (.nck (.t 27)),zv 29 (zd 28 2),zv 30 (zg 1 29),zv 31 (.un .not (.t 30)),zm 32 31,zw 32 true 33 (zg 1 1),zw 32 true 34 (.nck (.t 33)),zw 32 true 35 (zd 34 0),zw 32 true 36 (zg 1 35),zj 32 true 37 (zk 47 [zI 36,((.c (.str [32,45,62,32])),.id)]),zw 32 true 38 (.un .not (.t 37)),zv 39 (.pick (.t 32) (.t 38) (.c (.bool false))),zm 40 39,zw 40 true 41 (zg 1 1),zj 40 true 42 (zk 48 [zI 41,((.c (.str [32])),.id)]),zv 43 (.pick (.t 40) (.t 42) (.c (.bool false)))]
def qy8:IC:=.drw [zp (zv 44 (zd 3 2)),zp (zv 45 (zg 1 44)),(zi 46 (zk 49 [((.t 45),(.sl 3))]),[]),(zv 47 (zg 1 1),[2]),(zi 48 (zk 46 [zI 47]),[]),(zv 49 (.bsl 3 [((.t 48),(.agg [.id,.id,(.sl 3)]))]),[]),(zi 50 (.app 3 (.agg [(.str []),(.int .i64 0),.nils]) 48 (.sl 3) (.t 46) (.t 49)),[]),zp (zv 51 (zd 3 2)),(zn (.st 1 (.sl 3) (.t 51) (.t 50)),[])]
def qkg:IC:=(.seq (.seq q3t (.cond (.t 43) .skip (.exit 0))) (.block 1 qy8))
def qy4:IC:=zr [zv 52 (zg 1 1),zv 53 (.nck (.t 52)),zv 54 (zd 53 2),zv 55 (zg 1 54),zv 56 (.un .not (.t 55)),zm 57 56,zw 57 true 58 (zg 1 1),zj 57 true 59 (zk 48 [zI 58,((.c (.str [32,45,62,32])),.id)]),zv 60 (.pick (.t 57) (.t 59) (.c (.bool false)))]
def qx0:IC:=.drw [zp (zv 61 (zl 3 3)),zp (zv 62 (zg 1 1)),(zi 63 (zk 32 [zI 62]),[0]),(zv 64 (.bsl 3 [((.t 61),(.agg [.id,.id,(.sl 3)])),((.t 63),(.agg [.id,.id,(.sl 3)]))]),[]),(zv 65 (.bld [(.str []),(.int .i64 0),.nils] [(0,1,(.c (.str [45,62]))),(2,1,(.t 64))]),[]),(zn (.st 3 (.agg [.id,.id,(.sl 3)]) (.t 2) (.t 65)),[])]
def qyr:IC:=zr [zv 66 (zl 3 3),zn (.st 3 (.agg [.id,.id,(.sl 3)]) (.t 2) (.t 66))]
def k0cc:IC:=(.seq q1m (.seq (.seq q6l (.seq q0w (.cond (.t 15) q6u .skip))) (.seq q39 (.seq (.seq q4z (.cond (.t 23) (.seq q45 .ret) .skip)) (.seq q3w (.seq (.block 0 (.loop qkg)) (.seq (.seq qy4 (.cond (.t 60) (.seq qx0 .ret) .skip)) (.seq qyr .ret))))))))
@[go_sem] def s0cc:List (RV×Co):=[(.c true 3 2,(.agg [.id,.id,(.sl 3)]))]
theorem c0cc:cFun Try.prog 32 = some (67,k0cc,s0cc):=by kernel_rfl

def qbd9:IC:=zr [zi 1 (.box (.t 0)),zv 2 (.mov (.c (.str [])))]
def q9l:IC:=zr [zv 3 (zl 3 1),zi 4 (zk 15 [((.t 3),(.agg [.id,.id,(.sl 3)]))]),zv 5 (.un .not (.t 4))]
def qbco:IC:=zr [zv 2 (.mov (.c (.str [])))]
def qbev:IC:=zr [zv 6 (zl 3 1),zi 7 (zk 50 [((.t 6),(.agg [.id,.id,(.sl 3)]))]),zm 2 7]
def k0w:IC:=(.seq qbd9 (.seq (.seq q9l (.cond (.t 5) (.seq qbco .ret) .skip)) (.seq qbev .ret)))
@[go_sem] def s0w:List (RV×Co):=[(.t 2,.id)]
theorem c0w:cFun Try.prog 33 = some (8,k0w,s0w):=by kernel_rfl

def qbe5:IC:=zr [zv 6 (.mov (zc 0)),zv 7 zf]
def q9t:IC:=zr [zm 12 0,zv 13 (.len false (.t 12)),zm 8 13]
def qbdf:IC:=zr [zm 14 8,zv 9 (.mov (zc 0)),zm 10 14]
def qbbc:IC:=zr [zm 15 9,zm 16 10,zv 17 (.bin .lss .no (.t 15) (.t 16))]
def qbbe:IC:=zr [zm 18 9,zm 19 10,zv 20 (.bin .add .no (.t 18) (.t 19)),zv 21 (.cvi .u64 (.t 20)),zv 22 (.bin .shr .no (.t 21) (.c (.int .u64 1))),zv 23 (.cvi .i64 (.t 22)),zm 11 23]
def qbda:IC:=zr [zm 24 2,zm 25 0,zm 26 11,zv 27 (.iad 4 (.t 25) (.t 26)),zv 28 (zl 4 27),zm 29 1,zi 30 (.call (.t 24) [((.t 28),(.agg [.id,.id,.id,(.sl 3)])),zI 29]),zv 31 (.bin .lss .no (.t 30) (zc 0))]
def qbam:IC:=zr [zm 32 11,zv 33 (.bin .add .no (.t 32) (zc 1)),zm 9 33]
def qbcn:IC:=zr [zm 34 11,zm 10 34]
def qbbr:IC:=(.seq (.seq qbbc (.cond (.t 17) .skip (.exit 0))) (.block 1 (.seq qbbe (.seq qbda (.cond (.t 31) qbam qbcn)))))
def q5k:IC:=zr [zm 35 9,zm 36 9,zm 37 8,zv 38 (.bin .lss .no (.t 36) (.t 37)),zm 39 38,zw 39 true 40 (zo 2),zw 39 true 41 (zo 0),zw 39 true 42 (zo 9),zw 39 true 43 (.iad 4 (.t 41) (.t 42)),zw 39 true 44 (zl 4 43),zw 39 true 45 (zo 1),zj 39 true 46 (.call (.t 40) [((.t 44),(.agg [.id,.id,.id,(.sl 3)])),zI 45]),zw 39 true 47 (zq (.t 46) (zc 0)),zv 48 (.pick (.t 39) (.t 47) (.c (.bool false))),zm 6 35,zm 7 48]
def k0p:IC:=(.seq qbe5 (.seq q9t (.seq qbdf (.seq (.block 0 (.loop qbbr)) (.seq q5k .ret)))))
@[go_sem] def s0p:List (RV×Co):=[(.t 6,.id),(.t 7,.id)]
theorem c0p:cFun Try.prog 34 = some (49,k0p,s0p):=by kernel_rfl

def qbe7:IC:=zr [zi 2 (.box (.t 0)),zv 4 (.mov (zc 0))]
def qbdc:IC:=zr [zv 6 (zd 2 0),zv 7 (zg 1 6),zm 8 1,zv 9 (.bin .lss .no (.t 7) (.t 8)),zm 5 9]
def qba8:IC:=zr [zv 4 (.mov (zc (-1)))]
def qbaz:IC:=zr [zv 11 (zd 2 0),zv 12 (zg 1 11),zm 13 1,zv 14 (.bin .gtr .no (.t 12) (.t 13)),zm 10 14]
def qbc0:IC:=zr [zv 4 (.mov (zc 1))]
def qbcj:IC:=zr [zv 4 (.mov (zc 0))]
def k0r:IC:=(.seq qbe7 (.seq (.block 0 (.seq qbdc (.cond (.t 5) (.seq qba8 .ret) (.seq qbaz (.cond (.t 10) (.seq qbc0 .ret) .skip))))) (.seq qbcj .ret)))
@[go_sem] def s0r:List (RV×Co):=[(.t 4,.id)]
theorem c0r:cFun Try.prog 35 = some (15,k0r,s0r):=by kernel_rfl

def q2q:IC:=zr [zv 2 zf]
def q83:IC:=zr [zm 5 0,zi 6 (zk 47 [zI 5,((.c (.str [33])),.id)]),zv 7 (.un .not (.t 6))]
def q4o:IC:=zr [zv 2 zf]
def q85:IC:=zr [zm 9 0,zv 10 (.sls (.t 9) (some (zc 1)) none),zi 11 (zk 52 [zI 10]),zm 8 11,zv 12 (zx 8 0),zv 13 (zx 8 1),zm 3 12,zm 4 13]
def q20:IC:=.drw [zp (zm 14 4),zp (zv 15 (zq (.t 14) (zc 0))),zp (zm 16 15),zp (zw 16 true 17 (zo 3)),(zj 16 true 18 (zk 53 [zI 17]),[]),zp (zw 16 true 19 (zo 0)),zp (zw 16 true 20 (.sls (.t 19) (some (zc 1)) none)),zp (zw 16 true 21 (zq (.t 18) (.t 20))),zp (zv 22 (.pick (.t 16) (.t 21) (.c (.bool false)))),zp (zm 2 22)]
def k0bh:IC:=(.seq q2q (.seq (.seq q83 (.cond (.t 7) (.seq q4o .ret) .skip)) (.seq q85 (.seq q20 .ret))))
@[go_sem] def s0bh:List (RV×Co):=[(.t 2,.id)]
theorem c0bh:cFun Try.prog 38 = some (23,k0bh,s0bh):=by kernel_rfl

def q79:IC:=zr [zv 2 zf]
def q3a:IC:=zr [zm 3 0,zv 4 (.bin .neq .no (.t 3) (.c (.str []))),zm 5 4,zw 5 true 6 (zo 0),zw 5 true 7 (.idx (.t 6) (zc 0)),zj 5 true 8 (zk 54 [zI 7]),zv 9 (.pick (.t 5) (.t 8) (.c (.bool false))),zm 10 9,zw 10 true 11 (zo 0),zj 10 true 12 (zk 55 [zI 11]),zv 13 (.pick (.t 10) (.t 12) (.c (.bool false))),zm 2 13]
def k0bq:IC:=(.seq q79 (.seq q3a .ret))
@[go_sem] def s0bq:List (RV×Co):=[(.t 2,.id)]
theorem c0bq:cFun Try.prog 39 = some (14,k0bq,s0bq):=by kernel_rfl

def qbd5:IC:=zr [zi 3 (.box (.t 0)),zv 5 zf]
def qbem:IC:=zr [zv 6 (zg 1 2),zv 7 (.bin .add .no (.t 6) (zc 1)),zn (.st 1 .id (.t 2) (.t 7))]
def qbai:IC:=zr [zv 5 (.mov (.c (.bool true)))]
def k0y:IC:=(.seq qbd5 (.seq qbem (.seq qbai .ret)))
@[go_sem] def s0y:List (RV×Co):=[(.t 5,.id)]
theorem c0y:cFun Try.prog 40 = some (8,k0y,s0y):=by kernel_rfl

def qbez:IC:=zr [zi 3 (.box (.t 0)),zv 5 zf]
def q9e:IC:=zr [zv 6 (zg 1 2),zm 7 1,zv 8 (.mm true (.t 6) (.t 7)),zn (.st 1 .id (.t 2) (.t 8))]
def qbaa:IC:=zr [zv 5 (.mov (.c (.bool true)))]
def k0z:IC:=(.seq qbez (.seq q9e (.seq qbaa .ret)))
@[go_sem] def s0z:List (RV×Co):=[(.t 5,.id)]
theorem c0z:cFun Try.prog 41 = some (9,k0z,s0z):=by kernel_rfl

def qbbu:IC:=zr [zi 2 (.box (.t 0)),zi 3 (.box (.t 1)),zv 4 zf]
def qbbp:IC:=zr [zv 5 (zl 3 2),zi 6 (zk 15 [((.t 5),(.agg [.id,.id,(.sl 3)]))]),zm 4 6]
def k0h:IC:=(.seq qbbu (.seq qbbp .ret))
@[go_sem] def s0h:List (RV×Co):=[(.t 4,.id)]
theorem c0h:cFun Try.prog 42 = some (7,k0h,s0h):=by kernel_rfl

def q8n:IC:=zr [zi 2 (.box (.t 0)),zi 3 (.box (.t 1)),zv 4 zf]
def q8r:IC:=.drw [zp (zv 6 (zl 3 2)),(zi 7 (zk 24 [((.t 6),(.agg [.id,.id,(.sl 3)]))]),[]),(zv 8 (zl 3 3),[1]),(zi 9 (zk 24 [((.t 8),(.agg [.id,.id,(.sl 3)]))]),[]),(zv 10 (.bin .neq (.cells [.str,(.int .i64),(.int .i64)]) (.t 7) (.t 9)),[])]
def q2c:IC:=zr [zv 4 zf]
def q2e:IC:=zr [zv 11 (zd 2 2),zv 12 (zg 1 11),zv 13 (.len false (.t 12)),zv 14 (.mov (zc 0))]
def q3k:IC:=zr [zv 15 (.bin .lss .no (.t 14) (.t 13))]
def q8j:IC:=zr [zm 16 14,zm 5 16]
def q7o:IC:=.drw [zp (zv 17 (zd 2 2)),zp (zv 18 (zg 1 17)),zp (zm 19 5),zp (zv 20 (.iad 3 (.t 18) (.t 19))),zp (zv 21 (zl 3 20)),zp (zv 22 (zd 3 2)),zp (zv 23 (zg 1 22)),zp (zm 24 5),zp (zv 25 (.iad 3 (.t 23) (.t 24))),zp (zv 26 (zl 3 25)),(zi 27 (zk 43 [((.t 21),(.agg [.id,.id,(.sl 3)])),((.t 26),(.agg [.id,.id,(.sl 3)]))]),[]),zp (zv 28 (.un .not (.t 27)))]
def q2p:IC:=zr [zv 4 zf]
def q53:IC:=zr [zv 29 (.bin .add .no (.t 14) (zc 1)),zm 14 29]
def q76:IC:=(.seq q3k (.seq (.cond (.t 15) .skip (.exit 0)) (.seq (.block 1 (.seq q8j (.seq q7o (.cond (.t 28) (.seq q2p .ret) .skip)))) q53)))
def qy6:IC:=zr [zv 4 (.mov (.c (.bool true)))]
def k0bg:IC:=(.seq q8n (.seq (.seq q8r (.cond (.t 10) (.seq q2c .ret) .skip)) (.seq (.seq q2e (.block 0 (.loop q76))) (.seq qy6 .ret))))
@[go_sem] def s0bg:List (RV×Co):=[(.t 4,.id)]
theorem c0bg:cFun Try.prog 43 = some (30,k0bg,s0bg):=by kernel_rfl

def qbew:IC:=zr [zi 3 (.box (.t 0)),zi 4 (.box (.t 1)),zv 5 zf]
def qbb4:IC:=zr [zv 6 (zg 1 2),zv 7 (zl 3 3),zv 8 (zl 3 4),zi 9 (zk 31 [zI 6,((.t 7),(.agg [.id,.id,(.sl 3)])),((.t 8),(.agg [.id,.id,(.sl 3)]))]),zm 5 9]
def k0k:IC:=(.seq qbew (.seq qbb4 .ret))
@[go_sem] def s0k:List (RV×Co):=[(.t 5,.id)]
theorem c0k:cFun Try.prog 44 = some (10,k0k,s0k):=by kernel_rfl

def q6d:IC:=zr [zv 1 (zg 1 0),zv 2 (.nck (.t 1)),zv 3 (zd 2 1),zv 4 (zg 1 3),zv 5 (.bin .sub .no (.t 4) (zc 1)),zv 6 (.nck (.t 1)),zv 7 (zd 6 1),zn (.st 1 .id (.t 7) (.t 5))]
def k0bt:IC:=q6d
@[go_sem] def s0bt:List (RV×Co):=[]
theorem c0bt:cFun Try.prog 45 = some (8,k0bt,s0bt):=by kernel_rfl

def q43:IC:=zr [zi 2 (.alo [(.str []),(.int .i64 0),.nils])]
def q6q:IC:=zr [zm 6 0,zi 7 (zk 48 [zI 6,((.c (.str [40])),.id)])]
def q3g:IC:=zr [zm 8 0,zi 9 (zk 32 [zI 8]),zi 3 (.alo [(.str []),(.int .i64 0),.nils]),zn (.st 3 (.agg [.id,.id,(.sl 3)]) (.t 3) (.t 9))]
def q04:IC:=zr [zm 10 0,zm 11 0,zv 12 (.nck (.t 11)),zv 13 (zd 12 2),zv 14 (zg 1 13),zm 15 14,zw 15 false 16 (zo 0),zj 15 false 17 (zk 48 [zI 16,((.c (.str [41])),.id)]),zw 15 false 18 (.un .not (.t 17)),zv 19 (.pick (.t 15) (.c (.bool true)) (.t 18)),zv 20 (.nck (.t 10)),zv 21 (zd 20 2),zn (.st 1 .id (.t 21) (.t 19))]
def q6t:IC:=zr [zv 22 (zl 3 3),zn (.st 3 (.agg [.id,.id,(.sl 3)]) (.t 2) (.t 22))]
def q31:IC:=zr [zm 23 0,zv 24 (.nck (.t 23)),zv 25 (zd 24 0),zv 26 (zg 1 25),zi 27 (zk 56 [zI 26,((.c (.str [32,40,41])),.id)]),zm 4 27]
def q1j:IC:=zr [zm 28 4,zv 29 (.bin .lss .no (.t 28) (zc 0))]
def q8p:IC:=zr [zm 30 0,zv 31 (.nck (.t 30)),zv 32 (zd 31 0),zv 33 (zg 1 32),zv 34 (.len true (.t 33)),zm 4 34]
def q60:IC:=zr [zm 35 0,zv 36 (.nck (.t 35)),zv 37 (zd 36 0),zv 38 (zg 1 37),zm 39 4,zv 40 (.sls (.t 38) none (some (.t 39))),zi 41 (zk 57 [zI 40]),zi 5 (.alo [(.str []),(.int .i64 0),.nils]),zn (.st 3 (.agg [.id,.id,(.sl 3)]) (.t 5) (.t 41))]
def q37:IC:=.drw [zp (zm 42 0),zp (zm 43 0),zp (zm 44 0),zp (zv 45 (.nck (.t 44))),zp (zv 46 (zd 45 0)),zp (zv 47 (zg 1 46)),zp (zm 48 4),zp (zv 49 (.sls (.t 47) (some (.t 48)) none)),zp (zm 50 0),zp (zv 51 (.nck (.t 50))),zp (zv 52 (zd 51 2)),zp (zv 53 (zg 1 52)),zp (zm 54 53),zp (zw 54 false 55 (zo 4)),zp (zw 54 false 56 (zq (.t 55) (zc 0))),zp (zv 57 (.pick (.t 54) (.c (.bool true)) (.t 56))),zp (zv 58 (.nck (.t 42))),zp (zv 59 (zd 58 0)),(zn (.st 1 .id (.t 59) (.t 49)),[]),zp (zv 60 (.nck (.t 43))),zp (zv 61 (zd 60 2)),(zn (.st 1 .id (.t 61) (.t 57)),[])]
def qzh:IC:=zr [zv 62 (zl 3 5),zn (.st 3 (.agg [.id,.id,(.sl 3)]) (.t 2) (.t 62))]
def k0bu:IC:=(.seq q43 (.seq (.seq q6q (.cond (.t 7) (.seq q3g (.seq q04 (.seq q6t .ret))) .skip)) (.seq q31 (.seq (.seq q1j (.cond (.t 29) q8p .skip)) (.seq q60 (.seq q37 (.seq qzh .ret)))))))
@[go_sem] def s0bu:List (RV×Co):=[(.c true 3 2,(.agg [.id,.id,(.sl 3)]))]
theorem c0bu:cFun Try.prog 46 = some (63,k0bu,s0bu):=by kernel_rfl

def q7s:IC:=zr [zv 4 zf]
def q6h:IC:=zr [zm 5 0,zm 6 1,zi 7 (zk 58 [zI 5,zI 6]),zm 4 7]
def k0bl:IC:=(.seq q7s (.seq q6h .ret))
@[go_sem] def s0bl:List (RV×Co):=[(.t 4,.id)]
theorem c0bl:cFun Try.prog 47 = some (8,k0bl,s0bl):=by kernel_rfl

def q1q:IC:=zr [zv 4 zf]
def q50:IC:=zr [zm 6 0,zv 7 (.nck (.t 6)),zv 8 (zd 7 0),zv 9 (zg 1 8),zm 10 1,zi 11 (zk 47 [zI 9,zI 10]),zm 5 11]
def q6r:IC:=zr [zm 12 5]
def q8e:IC:=zr [zm 13 0,zm 14 0,zv 15 (.nck (.t 14)),zv 16 (zd 15 0),zv 17 (zg 1 16),zm 18 1,zv 19 (.len true (.t 18)),zv 20 (.sls (.t 17) (some (.t 19)) none),zv 21 (.nck (.t 13)),zv 22 (zd 21 0),zn (.st 1 .id (.t 22) (.t 20))]
def q1w:IC:=zr [zm 23 5,zm 4 23]
def k0bx:IC:=(.seq q1q (.seq q50 (.seq (.seq q6r (.cond (.t 12) q8e .skip)) (.seq q1w .ret))))
@[go_sem] def s0bx:List (RV×Co):=[(.t 4,.id)]
theorem c0bx:cFun Try.prog 48 = some (24,k0bx,s0bx):=by kernel_rfl

def q0t:IC:=zr [zv 2 (.mov (.c .nils))]
def q4q:IC:=zr [zm 3 0,zv 4 (.bin .eql .slice (.t 3) (.c .nils))]
def q55:IC:=zr [zv 2 (.mov (.c .nils))]
def q1n:IC:=zr [zv 5 (.bsl 3 []),zm 6 0,zi 7 (.app 3 (.agg [(.str []),(.int .i64 0),.nils]) 48 (.sl 3) (.t 5) (.t 6)),zm 2 7]
def k0bw:IC:=(.seq q0t (.seq (.seq q4q (.cond (.t 4) (.seq q55 .ret) .skip)) (.seq q1n .ret)))
@[go_sem] def s0bw:List (RV×Co):=[(.t 2,(.sl 3))]
theorem c0bw:cFun Try.prog 49 = some (8,k0bw,s0bw):=by kernel_rfl

def q9p:IC:=zr [zi 1 (.box (.t 0)),zv 2 (.mov (.c (.str [])))]
def qbdb:IC:=zr [zv 6 (zd 1 0),zv 7 (zg 1 6),zv 8 (zq (.t 7) (.c (.str [45,62])))]
def qbfx:IC:=.drw [zp (zv 9 (zd 1 2)),zp (zv 10 (zg 1 9)),zp (zv 11 (.iad 3 (.t 10) (zc 0))),zp (zv 12 (zl 3 11)),zp (zv 13 (zd 1 2)),zp (zv 14 (zg 1 13)),zp (zv 15 (.iad 3 (.t 14) (zc 0))),zp (zv 16 (zd 15 0)),zp (zv 17 (zg 1 16)),(zv 18 (zq (.t 17) (.c (.str [45,62]))),[]),(zi 19 (zk 59 [((.t 12),(.agg [.id,.id,(.sl 3)])),zI 18]),[]),(zv 20 (.bin .add .no (.t 19) (.c (.str [32,45,62,32]))),[]),zp (zv 21 (zd 1 2)),(zv 22 (zg 1 21),[10]),zp (zv 23 (.iad 3 (.t 22) (zc 1))),(zv 24 (zl 3 23),[10]),(zi 25 (zk 50 [((.t 24),(.agg [.id,.id,(.sl 3)]))]),[]),zp (zv 26 (.bin .add .no (.t 20) (.t 25))),zp (zm 2 26)]
def qbcf:IC:=zr [zi 3 (.bld 89 5)]
def q94:IC:=zr [zv 27 (zl 3 1),zi 28 (zk 24 [((.t 27),(.agg [.id,.id,(.sl 3)]))]),zi 29 (zk 61 [zI 28]),zi 30 (zk 60 [((.t 3),(.agg [.id,(.sl 1)])),zI 29])]
def qbfr:IC:=zr [zv 31 (zd 1 2),zv 32 (zg 1 31),zv 33 (.len false (.t 32)),zv 34 (.mov (zc 0))]
def qbck:IC:=zr [zv 35 (.bin .lss .no (.t 34) (.t 33))]
def q9b:IC:=zr [zv 36 (.iad 3 (.t 32) (.t 34)),zv 37 (zl 3 36),zi 5 (.alo [(.str []),(.int .i64 0),.nils]),zn (.st 3 (.agg [.id,.id,(.sl 3)]) (.t 5) (.t 37))]
def qber:IC:=zr [zv 38 (zl 3 5),zv 39 (zd 5 2),zv 40 (zg 1 39),zv 41 (.len false (.t 40)),zv 42 (.bin .gtr .no (.t 41) (zc 0)),zi 43 (zk 59 [((.t 38),(.agg [.id,.id,(.sl 3)])),zI 42]),zv 44 (.bin .add .no (.c (.str [32])) (.t 43)),zi 45 (zk 60 [((.t 3),(.agg [.id,(.sl 1)])),zI 44])]
def q1d:IC:=zr [zv 46 (.bin .add .no (.t 34) (zc 1)),zm 34 46]
def q9r:IC:=(.seq qbck (.seq (.cond (.t 35) .skip (.exit 0)) (.seq (.block 1 (.seq q9b qber)) q1d)))
def q6a:IC:=zr [zi 47 (zk 62 [((.t 3),(.agg [.id,(.sl 1)]))]),zm 2 47]
def k0v:IC:=(.seq q9p (.seq (.seq qbdb (.cond (.t 8) (.seq qbfx .ret) .skip)) (.seq qbcf (.seq q94 (.seq (.seq qbfr (.block 0 (.loop q9r))) (.seq q6a .ret))))))
@[go_sem] def s0v:List (RV×Co):=[(.t 2,.id)]
theorem c0v:cFun Try.prog 50 = some (48,k0v,s0v):=by kernel_rfl

def q5o:IC:=zr [zv 2 (.mov (zc 0)),zv 3 (.mov (zc 0))]
def q35:IC:=zr [zm 8 0,zv 9 (.len true (.t 8)),zv 10 (.mov (zc 0))]
def q73:IC:=zr [zv 11 (.bin .lss .no (.t 10) (.t 9))]
def q08:IC:=zr [zm 12 10,zm 4 12]
def q1z:IC:=zr [zm 13 0,zm 14 4,zv 15 (.idx (.t 13) (.t 14)),zv 16 (.bin .lss .no (.t 15) (.c (.int .u8 48))),zm 17 16,zw 17 false 18 (zo 0),zw 17 false 19 (zo 4),zw 17 false 20 (.idx (.t 18) (.t 19)),zw 17 false 21 (.bin .gtr .no (.t 20) (.c (.int .u8 57))),zv 22 (.pick (.t 17) (.c (.bool true)) (.t 21))]
def q6e:IC:=zr [zv 2 (.mov (zc 0)),zv 3 (.mov (zc 5))]
def q6x:IC:=zr [zv 23 (.bin .add .no (.t 10) (zc 1)),zm 10 23]
def q8c:IC:=(.seq q73 (.seq (.cond (.t 11) .skip (.exit 0)) (.seq (.block 1 (.seq q08 (.seq q1z (.cond (.t 22) (.seq q6e .ret) .skip)))) q6x)))
def q22:IC:=zr [zm 24 0,zv 25 (zq (.t 24) (.c (.str [])))]
def qze:IC:=zr [zv 2 (.mov (zc 0)),zv 3 (.mov (zc 5))]
def qw1:IC:=zr [zv 5 (.mov (zc 0)),zv 6 (.mov (zc 0))]
def qzw:IC:=zr [zm 26 0,zm 27 6,zv 28 (.idx (.t 26) (.t 27)),zv 29 (.bin .sub .no (.t 28) (.c (.int .u8 48))),zv 30 (.cvi .i64 (.t 29)),zm 7 30]
def qxa:IC:=zr [zm 31 5,zm 32 7,zv 33 (.bin .sub .no (zc 9223372036854775807) (.t 32)),zv 34 (.bin .quo .no (.t 33) (zc 10)),zv 35 (.bin .gtr .no (.t 31) (.t 34))]
def qx8:IC:=zr [zv 2 (.mov (zc 0)),zv 3 (.mov (zc 4))]
def qyk:IC:=zr [zm 36 5,zv 37 (.bin .mul .no (zc 10) (.t 36)),zm 38 7,zv 39 (.bin .add .no (.t 37) (.t 38)),zm 5 39]
def qxp:IC:=zr [zm 40 6,zv 41 (.bin .add .no (.t 40) (zc 1)),zm 6 41]
def qxg:IC:=zr [zm 42 6,zm 43 0,zv 44 (.len true (.t 43)),zv 45 (.bin .lss .no (.t 42) (.t 44))]
def qyq:IC:=zr [zm 46 5,zm 2 46,zv 3 (.mov (zc 0))]
def k0bm:IC:=(.seq q5o (.scope (.seq (.seq q35 (.block 0 (.loop q8c))) (.seq (.seq q22 (.cond (.t 25) (.seq qze .ret) .skip)) (.seq qw1 (.seq (.label 0) (.seq qzw (.seq (.seq qxa (.cond (.t 35) (.seq qx8 .ret) .skip)) (.seq qyk (.seq (.seq qxp (.seq qxg (.cond (.t 45) (.goto 0) .skip))) (.seq qyq .ret)))))))))))
@[go_sem] def s0bm:List (RV×Co):=[(.t 2,.id),(.t 3,.id)]
theorem c0bm:cFun Try.prog 52 = some (47,k0bm,s0bm):=by kernel_rfl

def q3z:IC:=zr [zv 2 (.mov (.c (.str [])))]
def q5n:IC:=zr [zm 6 0,zv 7 (.cvi .u64 (.t 6)),zm 3 7]
def q7l:IC:=zr [zm 8 0,zv 9 (.bin .lss .no (.t 8) (zc 0))]
def q7b:IC:=zr [zm 10 3,zv 11 (.un .neg (.t 10)),zm 3 11]
def q3o:IC:=zr [zi 4 (.alo [(.int .u8 0),(.int .u8 0),(.int .u8 0),(.int .u8 0),(.int .u8 0),(.int .u8 0),(.int .u8 0),(.int .u8 0),(.int .u8 0),(.int .u8 0),(.int .u8 0),(.int .u8 0),(.int .u8 0),(.int .u8 0),(.int .u8 0),(.int .u8 0),(.int .u8 0),(.int .u8 0),(.int .u8 0),(.int .u8 0)])]
def q5l:IC:=zr [zv 5 (.mov (zc 20))]
def q4e:IC:=zr [zm 12 5,zv 13 (.bin .sub .no (.t 12) (zc 1)),zm 5 13]
def q4l:IC:=zr [zm 14 5,zm 15 3,zv 16 (.bin .rem .no (.t 15) (.c (.int .u64 10))),zv 17 (.bin .add .no (.c (.int .u64 48)) (.t 16)),zv 18 (.cvi .u8 (.t 17)),zv 19 (.aad 1 20 (.t 4) (.t 14)),zn (.st 1 .id (.t 19) (.t 18))]
def q3u:IC:=zr [zm 20 3,zv 21 (.bin .quo .no (.t 20) (.c (.int .u64 10))),zm 3 21]
def qxr:IC:=zr [zm 22 3,zv 23 (zq (.t 22) (.c (.int .u64 0)))]
def q8i:IC:=(.block 1 (.seq q4e (.seq q4l (.seq q3u (.seq qxr (.cond (.t 23) (.exit 0) .skip))))))
def qwf:IC:=zr [zm 24 0,zv 25 (.bin .lss .no (.t 24) (zc 0))]
def qzo:IC:=zr [zm 26 5,zv 27 (.sla 20 (.t 4) (.t 26)),zv 28 (.cbs (.t 27)),zv 29 (.bin .add .no (.c (.str [45])) (.t 28)),zm 2 29]
def qw7:IC:=zr [zm 30 5,zv 31 (.sla 20 (.t 4) (.t 30)),zv 32 (.cbs (.t 31)),zm 2 32]
def k0br:IC:=(.seq q3z (.seq q5n (.seq (.seq q7l (.cond (.t 9) q7b .skip)) (.seq q3o (.seq q5l (.seq (.block 0 (.loop q8i)) (.seq (.seq qwf (.cond (.t 25) (.seq qzo .ret) .skip)) (.seq qw7 .ret))))))))
@[go_sem] def s0br:List (RV×Co):=[(.t 2,.id)]
theorem c0br:cFun Try.prog 53 = some (33,k0br,s0br):=by kernel_rfl

def q5m:IC:=zr [zv 2 zf]
def q5h:IC:=zr [zm 3 0,zv 4 (.bin .geq .no (.t 3) (.c (.int .u8 65))),zm 5 4,zw 5 true 6 (zo 0),zw 5 true 7 (.bin .leq .no (.t 6) (.c (.int .u8 90))),zv 8 (.pick (.t 5) (.t 7) (.c (.bool false))),zm 2 8]
def k0bo:IC:=(.seq q5m (.seq q5h .ret))
@[go_sem] def s0bo:List (RV×Co):=[(.t 2,.id)]
theorem c0bo:cFun Try.prog 54 = some (9,k0bo,s0bo):=by kernel_rfl

def q7a:IC:=zr [zv 2 zf]
def q80:IC:=zr [zm 5 0,zv 6 (.len true (.t 5)),zv 7 (.mov (zc 0))]
def q5f:IC:=zr [zv 8 (.bin .lss .no (.t 7) (.t 6))]
def q24:IC:=zr [zm 9 7,zm 3 9]
def q1s:IC:=zr [zm 10 0,zm 11 3,zv 12 (.idx (.t 10) (.t 11)),zm 4 12]
def q2i:IC:=zr [zm 13 4,zi 14 (zk 64 [zI 13]),zv 15 (.un .not (.t 14)),zm 16 15,zw 16 true 17 (zo 4),zj 16 true 18 (zk 54 [zI 17]),zw 16 true 19 (.un .not (.t 18)),zv 20 (.pick (.t 16) (.t 19) (.c (.bool false))),zm 21 20,zw 21 true 22 (zo 4),zw 21 true 23 (.bin .lss .no (.t 22) (.c (.int .u8 48))),zw 21 true 24 (zo 23),zw 24 false 25 (zo 4),zw 24 false 26 (.bin .gtr .no (.t 25) (.c (.int .u8 57))),zw 21 true 27 (.pick (.t 24) (.c (.bool true)) (.t 26)),zv 28 (.pick (.t 21) (.t 27) (.c (.bool false))),zm 29 28,zw 29 true 30 (zo 4),zw 29 true 31 (.bin .neq .no (.t 30) (.c (.int .u8 39))),zv 32 (.pick (.t 29) (.t 31) (.c (.bool false)))]
def q5g:IC:=zr [zv 2 zf]
def q7f:IC:=zr [zv 33 (.bin .add .no (.t 7) (zc 1)),zm 7 33]
def q1h:IC:=(.seq q5f (.seq (.cond (.t 8) .skip (.exit 0)) (.seq (.block 1 (.seq q24 (.seq q1s (.seq q2i (.cond (.t 32) (.seq q5g .ret) .skip))))) q7f)))
def qxd:IC:=zr [zv 2 (.mov (.c (.bool true)))]
def k0bp:IC:=(.seq q7a (.seq (.seq q80 (.block 0 (.loop q1h))) (.seq qxd .ret)))
@[go_sem] def s0bp:List (RV×Co):=[(.t 2,.id)]
theorem c0bp:cFun Try.prog 55 = some (34,k0bp,s0bp):=by kernel_rfl

def q16:IC:=zr [zi 2 (.alo [(.str []),(.int .i64 0),.nils])]
def q2a:IC:=zr [zm 6 0,zi 7 (zk 69 [zI 6]),zm 3 7]
def q5c:IC:=zr [zm 8 3,zv 9 (.bin .geq .no (.t 8) (zc 0))]
def q7z:IC:=zr [zm 10 3,zv 11 (.bld [(.str []),(.int .i64 0),.nils] [(1,1,(.t 10))]),zn (.st 3 (.agg [.id,.id,(.sl 3)]) (.t 2) (.t 11))]
def q21:IC:=zr [zm 12 0,zi 13 (zk 47 [zI 12,((.c (.str [63])),.id)])]
def q62:IC:=zr [zm 15 0,zv 16 (.sls (.t 15) (some (zc 1)) none),zi 17 (zk 52 [zI 16]),zm 14 17,zv 18 (zx 14 0),zv 19 (zx 14 1),zm 4 18,zm 5 19]
def q74:IC:=zr [zm 20 5,zv 21 (zq (.t 20) (zc 0))]
def q8b:IC:=zr [zm 22 4,zv 23 (.bin .sub .no (zc (-1)) (.t 22)),zv 24 (.bld [(.str []),(.int .i64 0),.nils] [(1,1,(.t 23))]),zn (.st 3 (.agg [.id,.id,(.sl 3)]) (.t 2) (.t 24))]
def q2v:IC:=zr [zm 25 0,zv 26 (.bld [(.str []),(.int .i64 0),.nils] [(0,1,(.t 25))]),zn (.st 3 (.agg [.id,.id,(.sl 3)]) (.t 2) (.t 26))]
def k0bv:IC:=(.seq q16 (.seq (.seq q2a (.seq q5c (.cond (.t 9) (.seq q7z .ret) .skip))) (.seq (.seq q21 (.cond (.t 13) (.seq q62 (.seq q74 (.cond (.t 21) (.seq q8b .ret) .skip))) .skip)) (.seq q2v .ret))))
@[go_sem] def s0bv:List (RV×Co):=[(.c true 3 2,(.agg [.id,.id,(.sl 3)]))]
theorem c0bv:cFun Try.prog 57 = some (27,k0bv,s0bv):=by kernel_rfl

def q2b:IC:=zr [zv 4 zf]
def q27:IC:=zr [zm 5 0,zv 6 (.len true (.t 5)),zm 7 1,zv 8 (.len true (.t 7)),zv 9 (.bin .geq .no (.t 6) (.t 8)),zm 10 9,zw 10 true 11 (zo 0),zw 10 true 12 (zo 1),zw 10 true 13 (.len true (.t 12)),zw 10 true 14 (.sls (.t 11) none (some (.t 13))),zw 10 true 15 (zo 1),zw 10 true 16 (zq (.t 14) (.t 15)),zv 17 (.pick (.t 10) (.t 16) (.c (.bool false))),zm 4 17]
def k0bk:IC:=(.seq q2b (.seq q27 .ret))
@[go_sem] def s0bk:List (RV×Co):=[(.t 4,.id)]
theorem c0bk:cFun Try.prog 58 = some (18,k0bk,s0bk):=by kernel_rfl

def qbfv:IC:=zr [zi 2 (.box (.t 0)),zv 4 (.mov (.c (.str [])))]
def qbcy:IC:=zr [zm 5 1]
def qbeh:IC:=zr [zv 6 (zl 3 2),zi 7 (zk 50 [((.t 6),(.agg [.id,.id,(.sl 3)]))]),zv 8 (.bin .add .no (.c (.str [40])) (.t 7)),zv 9 (.bin .add .no (.t 8) (.c (.str [41]))),zm 4 9]
def qbcb:IC:=zr [zv 10 (zl 3 2),zi 11 (zk 50 [((.t 10),(.agg [.id,.id,(.sl 3)]))]),zm 4 11]
def k0u:IC:=(.seq qbfv (.seq (.seq qbcy (.cond (.t 5) (.seq qbeh .ret) .skip)) (.seq qbcb .ret)))
@[go_sem] def s0u:List (RV×Co):=[(.t 4,.id)]
theorem c0u:cFun Try.prog 59 = some (12,k0u,s0u):=by kernel_rfl

def qbe4:IC:=zr [zi 1 (.box (.t 0)),zv 2 (.mov (.c (.str [])))]
def qbcg:IC:=zr [zv 4 (zd 1 0),zv 5 (zg 1 4),zv 6 (.bin .neq .no (.t 5) (.c (.str []))),zm 3 6]
def qbdu:IC:=zr [zv 7 (zd 1 0),zv 8 (zg 1 7),zm 2 8]
def qbao:IC:=zr [zv 10 (zd 1 1),zv 11 (zg 1 10),zv 12 (.bin .geq .no (.t 11) (zc 0)),zm 9 12]
def qbdd:IC:=zr [zv 13 (zd 1 1),zv 14 (zg 1 13),zi 15 (zk 71 [zI 14]),zm 2 15]
def q9z:IC:=zr [zv 16 (zd 1 1),zv 17 (zg 1 16),zv 18 (.bin .sub .no (zc (-1)) (.t 17)),zi 19 (zk 53 [zI 18]),zv 20 (.bin .add .no (.c (.str [63])) (.t 19)),zm 2 20]
def k0t:IC:=(.seq qbe4 (.seq (.block 0 (.seq qbcg (.cond (.t 3) (.seq qbdu .ret) (.seq qbao (.cond (.t 9) (.seq qbdd .ret) .skip))))) (.seq q9z .ret)))
@[go_sem] def s0t:List (RV×Co):=[(.t 2,.id)]
theorem c0t:cFun Try.prog 61 = some (21,k0t,s0t):=by kernel_rfl

def q0p:IC:=zr [zv 2 zf]
def q3f:IC:=zr [zm 3 0,zv 4 (.bin .geq .no (.t 3) (.c (.int .u8 97))),zm 5 4,zw 5 true 6 (zo 0),zw 5 true 7 (.bin .leq .no (.t 6) (.c (.int .u8 122))),zv 8 (.pick (.t 5) (.t 7) (.c (.bool false))),zm 9 8,zw 9 false 10 (zo 0),zw 9 false 11 (zq (.t 10) (.c (.int .u8 95))),zv 12 (.pick (.t 9) (.c (.bool true)) (.t 11)),zm 2 12]
def k0bn:IC:=(.seq q0p (.seq q3f .ret))
@[go_sem] def s0bn:List (RV×Co):=[(.t 2,.id)]
theorem c0bn:cFun Try.prog 64 = some (13,k0bn,s0bn):=by kernel_rfl

def q58:IC:=zr [zv 2 (.mov (zc 0))]
def q2z:IC:=zr [zm 6 0,zv 7 (zq (.t 6) (.c (.str []))),zm 8 7,zw 8 false 9 (zo 0),zw 8 false 10 (.idx (.t 9) (zc 0)),zw 8 false 11 (.bin .lss .no (.t 10) (.c (.int .u8 97))),zv 12 (.pick (.t 8) (.c (.bool true)) (.t 11)),zm 13 12,zw 13 false 14 (zo 0),zw 13 false 15 (.idx (.t 14) (zc 0)),zw 13 false 16 (.bin .gtr .no (.t 15) (.c (.int .u8 122))),zv 17 (.pick (.t 13) (.c (.bool true)) (.t 16))]
def q4j:IC:=zr [zv 2 (.mov (zc (-1)))]
def q7m:IC:=zr [zm 18 0,zv 19 (.idx (.t 18) (zc 0)),zv 20 (.bin .sub .no (.t 19) (.c (.int .u8 97))),zv 21 (.cvi .i64 (.t 20)),zm 3 21]
def q4b:IC:=zr [zm 22 0,zv 23 (.len true (.t 22)),zv 24 (.bin .gtr .no (.t 23) (zc 1))]
def q6b:IC:=zr [zm 26 0,zv 27 (.sls (.t 26) (some (zc 1)) none),zi 28 (zk 52 [zI 27]),zm 25 28,zv 29 (zx 25 0),zv 30 (zx 25 1),zm 4 29,zm 5 30]
def q65:IC:=zr [zm 31 5,zv 32 (.bin .neq .no (.t 31) (zc 0)),zm 33 32,zw 33 false 34 (zo 4),zw 33 false 35 (.bin .gtr .no (.t 34) (zc 177372539170284150)),zv 36 (.pick (.t 33) (.c (.bool true)) (.t 35))]
def q71:IC:=zr [zv 2 (.mov (zc (-1)))]
def q33:IC:=zr [zm 37 3,zm 38 4,zv 39 (.bin .mul .no (zc 26) (.t 38)),zv 40 (.bin .add .no (.t 37) (.t 39)),zm 3 40]
def q3y:IC:=zr [zm 41 3,zv 42 (.bin .gtr .no (.t 41) (zc 4611686018427387904)),zm 43 42,zw 43 false 44 (zo 3),zj 43 false 45 (zk 71 [zI 44]),zw 43 false 46 (zo 0),zw 43 false 47 (.bin .neq .no (.t 45) (.t 46)),zv 48 (.pick (.t 43) (.c (.bool true)) (.t 47))]
def qv8:IC:=zr [zv 2 (.mov (zc (-1)))]
def qwm:IC:=zr [zm 49 3,zm 2 49]
def k0by:IC:=(.seq q58 (.seq (.seq q2z (.cond (.t 17) (.seq q4j .ret) .skip)) (.seq q7m (.seq (.seq q4b (.cond (.t 24) (.seq q6b (.seq (.seq q65 (.cond (.t 36) (.seq q71 .ret) .skip)) q33)) .skip)) (.seq (.seq q3y (.cond (.t 48) (.seq qv8 .ret) .skip)) (.seq qwm .ret))))))
@[go_sem] def s0by:List (RV×Co):=[(.t 2,.id)]
theorem c0by:cFun Try.prog 69 = some (50,k0by,s0by):=by kernel_rfl

def q5x:IC:=zr [zv 2 (.mov (.c (.str [])))]
def q7j:IC:=zr [zm 4 0,zv 5 (.bin .lss .no (.t 4) (zc 0))]
def q4s:IC:=zr [zv 2 (.mov (.c (.str [])))]
def q84:IC:=zr [zm 6 0,zv 7 (.bin .rem .no (.t 6) (zc 26)),zv 8 (.bin .add .no (zc 97) (.t 7)),zv 9 (.cvi .u8 (.t 8)),zv 10 (.bsl 1 [zI 9]),zv 11 (.cbs (.t 10)),zm 3 11]
def q2s:IC:=zr [zm 12 0,zv 13 (.bin .lss .no (.t 12) (zc 26))]
def q4n:IC:=zr [zm 14 3,zm 2 14]
def q3q:IC:=zr [zm 15 3,zm 16 0,zv 17 (.bin .quo .no (.t 16) (zc 26)),zi 18 (zk 53 [zI 17]),zv 19 (.bin .add .no (.t 15) (.t 18)),zm 2 19]
def k0bs:IC:=(.seq q5x (.seq (.seq q7j (.cond (.t 5) (.seq q4s .ret) .skip)) (.seq q84 (.seq (.seq q2s (.cond (.t 13) (.seq q4n .ret) .skip)) (.seq q3q .ret)))))
@[go_sem] def s0bs:List (RV×Co):=[(.t 2,.id)]
theorem c0bs:cFun Try.prog 71 = some (20,k0bs,s0bs):=by kernel_rfl

end Go.Proofs.Ytefcfdejmfgbpaa
