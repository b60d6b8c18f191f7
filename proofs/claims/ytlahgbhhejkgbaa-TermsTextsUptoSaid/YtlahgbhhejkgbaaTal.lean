/- A text of this proof. -/
import Derived.Test.YtlahgbhhejkgbaaTaf
import Derived.Test.YtlahgbhhejkgbaaProg
set_option linter.unusedVariables false
set_option linter.unusedSimpArgs false
/- The compiled code of the functions. -/
namespace Go.Proofs.Ytlahgbhhejkgbaa
open Go Go.V
@[reducible] def zm (d s:Nat):GI:=⟨none,some d,.v (.mov (.t s))⟩
@[reducible] def zv (d:Nat) (x:IV):GI:=⟨none,some d,.v x⟩
@[reducible] def zi (d:Nat) (i:I):GI:=⟨none,some d,i⟩
@[reducible] def zn (i:I):GI:=⟨none,none,i⟩
@[reducible] def zw (j:Nat) (b:Bool) (d:Nat) (x:IV):GI:=⟨some (j,b),some d,.v x⟩
@[reducible] def zp (g:GI):GI×List Nat:=(g,[])
@[reducible] def zN:Co:=.agg [.id,.id,.id,.id,(.sl 5)]
@[reducible] def zC:Co:=.agg [(.sl 4),.id,.id,.id,.id,.id,.id,.id]
@[reducible] def zaN:I:=.alo [(.int .i64 0),(.int .i64 0),(.int .i64 0),(.str []),.nils]
@[reducible] def zaC:I:=.alo [.nils,(.int .i64 0),(.int .i64 0),(.int .i64 0),(.str []),(.int .i64 0),(.int .i64 0),(.int .i64 0)]
@[reducible] def zaT:I:=.alo [(.int .i64 0),(.int .i64 0),(.int .i64 0),(.str [])]
@[reducible] def zZ:AV:=.agg [(.int .i64 0),(.int .i64 0),(.int .i64 0),(.str []),.nils]
@[reducible] def zc (n:Int):Opd:=.c (.int .i64 n)
@[reducible] def zf:IV:=.mov (.c (.bool false))
@[reducible] def zr (l:List GI):IC:=.reg false l
@[reducible] def zk (f:FuncId) (l:List (Opd×Co)):I:=.call (.c (.fn f [] [])) l
@[reducible] def zA (n:Nat):Opd×Co:=(.t n,zN)
@[reducible] def zI (n:Nat):Opd×Co:=(.t n,.id)
@[reducible] def zx (n k:Nat):IV:=.ext (.t n) k
@[reducible] def zl (n k:Nat):IV:=.ld true n (.t k)
@[reducible] def zg (n k:Nat):IV:=.ld false n (.t k)
@[reducible] def zd (n k:Nat):IV:=.fad (.t n) k
@[reducible] def zq (a b:Opd):IV:=.bin .eql .no a b
@[reducible] def zo (n:Nat):IV:=.mov (.t n)
@[reducible] def zj (j:Nat) (b:Bool) (d:Nat) (i:I):GI:=⟨some (j,b),some d,i⟩
def qbbh:IC:=zr [zi 2 (.box (.t 0)),zv 4 zf]
def q59:IC:=zr [zv 9 (zl 3 2),zv 10 (.bsl 3 [((.t 9),(.agg [.id,.id,(.sl 3)]))]),zi 11 (zk 9 [((.t 10),(.sl 3))]),zv 12 (zq (.t 11) (zc 0)),zm 13 12,zw 13 false 14 (zo 1),zw 13 false 15 (.len true (.t 14)),zw 13 false 16 (.bin .gtr .no (.t 15) (zc 3000)),zv 17 (.pick (.t 13) (.c (.bool true)) (.t 16))]
def q7a:IC:=zr [zi 18 (zk 10 []),zm 4 18]
def q07:IC:=zr [zm 20 1,zi 21 (zk 29 [zI 20]),zm 19 21,zv 22 (zx 19 0),zv 23 (zx 19 1),zi 5 (.alo [(.str []),(.int .i64 0),.nils]),zn (.st 3 (.agg [.id,.id,(.sl 3)]) (.t 5) (.t 22)),zm 6 23]
def q94:IC:=zr [zm 25 1,zi 26 (zk 30 [zI 25]),zm 24 26,zv 27 (zx 24 0),zv 28 (zx 24 1),zi 7 (.alo [(.str []),(.int .i64 0),.nils]),zn (.st 3 (.agg [.id,.id,(.sl 3)]) (.t 7) (.t 27)),zm 8 28]
def q7d:IC:=.drw [zp (zv 29 (zl 3 2)),(zi 30 (zk 31 [((.t 29),(.agg [.id,.id,(.sl 3)]))]),[]),(zv 31 (zl 3 2),[1]),(zi 32 (zk 32 [((.t 31),(.agg [.id,.id,(.sl 3)]))]),[]),zp (zv 33 (zq (.t 30) (.t 32))),zp (zm 34 33),zp (zw 34 true 35 (zl 3 5)),zp (zw 34 true 36 (zl 3 7)),(zj 34 true 37 (zk 23 [((.t 35),(.agg [.id,.id,(.sl 3)])),((.t 36),(.agg [.id,.id,(.sl 3)]))]),[]),zp (zv 38 (.pick (.t 34) (.t 37) (.c (.bool false)))),zp (zm 39 38),zp (zw 39 true 40 (zo 6)),zp (zw 39 true 41 (zo 8)),zp (zw 39 true 42 (zq (.t 40) (.t 41))),zp (zv 43 (.pick (.t 39) (.t 42) (.c (.bool false)))),zp (zm 44 43),(zj 44 true 45 (zk 10 []),[]),zp (zv 46 (.pick (.t 44) (.t 45) (.c (.bool false)))),zp (zm 4 46)]
def k0cg:IC:=(.seq qbbh (.seq (.seq q59 (.cond (.t 17) (.seq q7a .ret) .skip)) (.seq q07 (.seq q94 (.seq q7d .ret)))))
@[go_sem] def s0cg:List (RV×Co):=[(.t 4,.id)]
theorem c0cg:cFun Try.prog 6 = some (47,k0cg,s0cg):=by kernel_rfl

def q0k:IC:=zr [zv 2 (.mov (zc 0))]
def q4x:IC:=zr [zv 3 (.mov (zc 20000))]
def q4i:IC:=zr [zv 4 (.mov (zc 0))]
def q90:IC:=zr [zm 5 4,zm 6 0,zv 7 (.len false (.t 6)),zv 8 (.bin .lss .no (.t 5) (.t 7))]
def q9y:IC:=zr [zm 11 0,zm 12 4,zv 13 (.iad 3 (.t 11) (.t 12)),zv 14 (zl 3 13),zm 15 3,zi 16 (zk 37 [((.t 14),(.agg [.id,.id,(.sl 3)])),zI 15,((zc 300),.id)]),zm 3 16]
def q5v:IC:=zr [zm 9 4,zv 10 (.bin .add .no (.t 9) (zc 1)),zm 4 10]
def q4r:IC:=(.seq (.seq q90 (.cond (.t 8) .skip (.exit 0))) (.seq (.block 1 q9y) q5v))
def q5k:IC:=zr [zm 17 3,zv 18 (.bin .lss .no (.t 17) (zc 0))]
def q5s:IC:=zr [zv 2 (.mov (zc 0))]
def qyd:IC:=zr [zv 2 (.mov (zc 1))]
def k0bz:IC:=(.seq q0k (.seq q4x (.seq (.seq q4i (.block 0 (.loop q4r))) (.seq (.seq q5k (.cond (.t 18) (.seq q5s .ret) .skip)) (.seq qyd .ret)))))
@[go_sem] def s0bz:List (RV×Co):=[(.t 2,.id)]
theorem c0bz:cFun Try.prog 9 = some (19,k0bz,s0bz):=by kernel_rfl

def q86:IC:=zr [zv 0 zf]
def q52:IC:=zr [zv 10 (.bld [(.str []),(.int .i64 0),.nils] []),zv 11 (.bld [(.str []),(.int .i64 0),.nils] [(1,1,(zc (-1)))]),zv 12 (.bsl 3 [((.t 11),(.agg [.id,.id,(.sl 3)]))]),zv 13 (.bld [(.str []),(.int .i64 0),.nils] [(0,1,(.c (.str [84]))),(2,1,(.t 12))]),zi 1 (.alo [(.str []),(.int .i64 0),.nils]),zi 2 (.alo [(.str []),(.int .i64 0),.nils]),zn (.st 3 (.agg [.id,.id,(.sl 3)]) (.t 1) (.t 10)),zn (.st 3 (.agg [.id,.id,(.sl 3)]) (.t 2) (.t 13))]
def q27:IC:=zr [zv 14 (zl 3 1),zv 15 (zl 3 2),zv 16 (.bsl 3 [((.t 14),(.agg [.id,.id,(.sl 3)])),((.t 15),(.agg [.id,.id,(.sl 3)]))]),zv 17 (zl 3 1),zi 18 (zk 24 [((.t 16),(.sl 3)),((.t 17),(.agg [.id,.id,(.sl 3)]))]),zi 3 (.alo [(.str []),(.int .i64 0),.nils]),zn (.st 3 (.agg [.id,.id,(.sl 3)]) (.t 3) (.t 18))]
def qbau:IC:=zr [zv 20 (zl 3 3),zi 21 (zk 25 [((.t 20),(.agg [.id,.id,(.sl 3)]))]),zm 19 21,zv 22 (zx 19 0),zv 23 (zx 19 1),zi 5 (.alo [(.str []),(.int .i64 0),.nils]),zm 4 22,zn (.st 3 (.agg [.id,.id,(.sl 3)]) (.t 5) (.t 23))]
def q1y:IC:=zr [zi 25 (zk 29 [((.c (.str [97,32,45,62,32,84,32,63,48])),.id)]),zm 24 25,zv 26 (zx 24 0),zv 27 (zx 24 1),zi 6 (.alo [(.str []),(.int .i64 0),.nils]),zn (.st 3 (.agg [.id,.id,(.sl 3)]) (.t 6) (.t 26)),zm 7 27]
def q4t:IC:=zr [zi 29 (zk 29 [((.c (.str [97,32,32,45,62,32,98])),.id)]),zm 28 29,zv 30 (zx 28 0),zv 31 (zx 28 1),zi 8 (.alo [(.str []),(.int .i64 0),.nils]),zn (.st 3 (.agg [.id,.id,(.sl 3)]) (.t 8) (.t 30)),zm 9 31]
def q4u:IC:=zr [zv 32 (zl 3 6),zi 33 (zk 31 [((.t 32),(.agg [.id,.id,(.sl 3)]))]),zv 34 (zq (.t 33) (.c (.str [97,32,45,62,32,84,32,63,48]))),zm 35 34,zw 35 true 36 (zo 7),zw 35 true 37 (zq (.t 36) (zc 0)),zv 38 (.pick (.t 35) (.t 37) (.c (.bool false))),zm 39 38,zw 39 true 40 (zo 9),zw 39 true 41 (zq (.t 40) (zc 5)),zv 42 (.pick (.t 39) (.t 41) (.c (.bool false))),zm 43 42,zw 43 true 44 (zo 4),zw 43 true 45 (.len false (.t 44)),zw 43 true 46 (zq (.t 45) (zc 2)),zv 47 (.pick (.t 43) (.t 46) (.c (.bool false))),zm 48 47,zw 48 true 49 (zl 3 5),zw 48 true 50 (zl 3 1),zj 48 true 51 (zk 22 [((.t 49),(.agg [.id,.id,(.sl 3)])),((.t 50),(.agg [.id,.id,(.sl 3)]))]),zv 52 (.pick (.t 48) (.t 51) (.c (.bool false))),zm 53 52,zw 53 true 54 (zl 3 3),zj 53 true 55 (zk 31 [((.t 54),(.agg [.id,.id,(.sl 3)]))]),zw 53 true 56 (zq (.t 55) (.c (.str [97,32,45,62,32,84,32,63,48,32,45,62,32,97]))),zv 57 (.pick (.t 53) (.t 56) (.c (.bool false))),zm 58 57,zw 58 true 59 (zl 3 3),zj 58 true 60 (zk 11 [((.t 59),(.agg [.id,.id,(.sl 3)]))]),zv 61 (.pick (.t 58) (.t 60) (.c (.bool false))),zm 62 61,zw 62 true 63 (.bld [(.str []),(.int .i64 0),.nils] [(0,1,(.c (.str [45,62])))]),zj 62 true 64 (zk 11 [((.t 63),(.agg [.id,.id,(.sl 3)]))]),zw 62 true 65 (.un .not (.t 64)),zv 66 (.pick (.t 62) (.t 65) (.c (.bool false))),zm 67 66,zw 67 true 68 (.bld [(.str []),(.int .i64 0),.nils] [(0,1,(.c (.str [33,51])))]),zj 67 true 69 (zk 11 [((.t 68),(.agg [.id,.id,(.sl 3)]))]),zv 70 (.pick (.t 67) (.t 69) (.c (.bool false))),zm 71 70,zw 71 true 72 (zl 3 3),zj 71 true 73 (zk 13 [((.t 72),(.agg [.id,.id,(.sl 3)]))]),zw 71 true 74 (zq (.t 73) (zc 6)),zv 75 (.pick (.t 71) (.t 74) (.c (.bool false))),zm 76 75,zw 76 true 77 (zl 3 2),zj 76 true 78 (zk 15 [((.t 77),(.agg [.id,.id,(.sl 3)]))]),zw 76 true 79 (zq (.t 78) (zc 2)),zv 80 (.pick (.t 76) (.t 79) (.c (.bool false))),zm 81 80,zw 81 true 82 (zl 3 2),zj 81 true 83 (zk 20 [((.t 82),(.agg [.id,.id,(.sl 3)])),((zc (-1)),.id)]),zv 84 (.pick (.t 81) (.t 83) (.c (.bool false))),zm 85 84,zw 85 true 86 (zl 3 2),zj 85 true 87 (zk 20 [((.t 86),(.agg [.id,.id,(.sl 3)])),((zc 0),.id)]),zw 85 true 88 (.un .not (.t 87)),zv 89 (.pick (.t 85) (.t 88) (.c (.bool false))),zm 90 89,zw 90 true 91 (zl 3 3),zj 90 true 92 (zk 18 [((.t 91),(.agg [.id,.id,(.sl 3)]))]),zw 90 true 93 (.bsl 1 [((zc 0),.id),((zc (-1)),.id)]),zj 90 true 94 (zk 17 [((.t 92),(.sl 1)),((.t 93),(.sl 1))]),zv 95 (.pick (.t 90) (.t 94) (.c (.bool false))),zm 0 95]
def k0cx:IC:=(.seq q86 (.seq q52 (.seq q27 (.seq qbau (.seq q1y (.seq q4t (.seq q4u .ret)))))))
@[go_sem] def s0cx:List (RV×Co):=[(.t 0,.id)]
theorem c0cx:cFun Try.prog 10 = some (96,k0cx,s0cx):=by kernel_rfl

def q3p:IC:=zr [zi 1 (.box (.t 0)),zv 2 zf]
def q85:IC:=zr [zi 3 (.alo [(.int .i64 0)]),zn (.st 1 .id (.t 3) (zc 0))]
def qbat:IC:=zr [zv 4 (zl 3 1),zv 5 (.mfn 39 [] [(.t 3)]),zi 6 (zk 38 [((.t 4),(.agg [.id,.id,(.sl 3)])),((zc 1),.id),zI 5]),zm 2 6]
def k0bs:IC:=(.seq q3p (.seq q85 (.seq qbat .ret)))
@[go_sem] def s0bs:List (RV×Co):=[(.t 2,.id)]
theorem c0bs:cFun Try.prog 11 = some (7,k0bs,s0bs):=by kernel_rfl

def qbif:IC:=zr [zi 1 (.box (.t 0)),zv 2 zf]
def qbeo:IC:=zr [zv 3 (zl 3 1),zi 4 (zk 14 [((.t 3),(.agg [.id,.id,(.sl 3)]))]),zv 5 (.bin .leq .no (.t 4) (zc 4096)),zm 6 5,zw 6 true 7 (zl 3 1),zj 6 true 8 (zk 16 [((.t 7),(.agg [.id,.id,(.sl 3)]))]),zw 6 true 9 (.bin .leq .no (.t 8) (zc 100)),zv 10 (.pick (.t 6) (.t 9) (.c (.bool false))),zm 11 10,zw 11 true 12 (zl 3 1),zj 11 true 13 (zk 42 [((.t 12),(.agg [.id,.id,(.sl 3)]))]),zv 14 (.pick (.t 11) (.t 13) (.c (.bool false))),zm 2 14]
def k0a:IC:=(.seq qbif (.seq qbeo .ret))
@[go_sem] def s0a:List (RV×Co):=[(.t 2,.id)]
theorem c0a:cFun Try.prog 12 = some (15,k0a,s0a):=by kernel_rfl

def q4b:IC:=zr [zi 1 (.box (.t 0)),zv 2 (.mov (zc 0))]
def q28:IC:=zr [zi 3 (.alo [(.int .i64 0)]),zn (.st 1 .id (.t 3) (zc 0))]
def q0q:IC:=zr [zv 4 (zl 3 1),zv 5 (.mfn 43 [] [(.t 3)]),zi 6 (zk 38 [((.t 4),(.agg [.id,.id,(.sl 3)])),((zc 1),.id),zI 5])]
def q3x:IC:=zr [zv 7 (zg 1 3),zm 2 7]
def k0bt:IC:=(.seq q4b (.seq q28 (.seq q0q (.seq q3x .ret))))
@[go_sem] def s0bt:List (RV×Co):=[(.t 2,.id)]
theorem c0bt:cFun Try.prog 13 = some (8,k0bt,s0bt):=by kernel_rfl

def q2x:IC:=zr [zi 1 (.box (.t 0)),zv 2 (.mov (zc 0))]
def q5m:IC:=zr [zv 3 (.mov (zc 1))]
def q3y:IC:=zr [zv 4 (.mov (zc 0))]
def q11:IC:=zr [zm 5 4,zv 6 (zd 1 2),zv 7 (zg 1 6),zv 8 (.len false (.t 7)),zv 9 (.bin .lss .no (.t 5) (.t 8))]
def q98:IC:=zr [zm 12 3,zv 13 (zd 1 2),zv 14 (zg 1 13),zm 15 4,zv 16 (.iad 3 (.t 14) (.t 15)),zv 17 (zl 3 16),zi 18 (zk 14 [((.t 17),(.agg [.id,.id,(.sl 3)]))]),zv 19 (.bin .add .no (.t 12) (.t 18)),zm 3 19]
def q7c:IC:=zr [zm 10 4,zv 11 (.bin .add .no (.t 10) (zc 1)),zm 4 11]
def q0l:IC:=(.seq (.seq q11 (.cond (.t 9) .skip (.exit 0))) (.seq (.block 1 q98) q7c))
def q2y:IC:=zr [zm 20 3,zm 2 20]
def k0bv:IC:=(.seq q2x (.seq q5m (.seq (.seq q3y (.block 0 (.loop q0l))) (.seq q2y .ret))))
@[go_sem] def s0bv:List (RV×Co):=[(.t 2,.id)]
theorem c0bv:cFun Try.prog 14 = some (21,k0bv,s0bv):=by kernel_rfl

def q13:IC:=zr [zi 1 (.box (.t 0)),zv 2 (.mov (zc 0))]
def qbbn:IC:=zr [zi 3 (.alo [(.int .i64 0)]),zn (.st 1 .id (.t 3) (zc 0))]
def q8w:IC:=zr [zv 4 (zl 3 1),zv 5 (.mfn 44 [] [(.t 3)]),zi 6 (zk 38 [((.t 4),(.agg [.id,.id,(.sl 3)])),((zc 1),.id),zI 5])]
def q9u:IC:=zr [zv 7 (zg 1 3),zm 2 7]
def k0bu:IC:=(.seq q13 (.seq qbbn (.seq q8w (.seq q9u .ret))))
@[go_sem] def s0bu:List (RV×Co):=[(.t 2,.id)]
theorem c0bu:cFun Try.prog 15 = some (8,k0bu,s0bu):=by kernel_rfl

def q9i:IC:=zr [zi 1 (.box (.t 0)),zv 2 (.mov (zc 0))]
def q9n:IC:=zr [zv 3 (.mov (zc 0))]
def qbah:IC:=zr [zv 4 (.mov (zc 0))]
def q25:IC:=zr [zm 5 4,zv 6 (zd 1 2),zv 7 (zg 1 6),zv 8 (.len false (.t 7)),zv 9 (.bin .lss .no (.t 5) (.t 8))]
def q0f:IC:=zr [zm 12 3,zv 13 (zd 1 2),zv 14 (zg 1 13),zm 15 4,zv 16 (.iad 3 (.t 14) (.t 15)),zv 17 (zl 3 16),zi 18 (zk 16 [((.t 17),(.agg [.id,.id,(.sl 3)]))]),zv 19 (.mm true (.t 12) (.t 18)),zm 3 19]
def q4p:IC:=zr [zm 10 4,zv 11 (.bin .add .no (.t 10) (zc 1)),zm 4 11]
def qba2:IC:=(.seq (.seq q25 (.cond (.t 9) .skip (.exit 0))) (.seq (.block 1 q0f) q4p))
def q7i:IC:=zr [zm 20 3,zv 21 (.bin .add .no (.t 20) (zc 1)),zm 2 21]
def k0bw:IC:=(.seq q9i (.seq q9n (.seq (.seq qbah (.block 0 (.loop qba2))) (.seq q7i .ret))))
@[go_sem] def s0bw:List (RV×Co):=[(.t 2,.id)]
theorem c0bw:cFun Try.prog 16 = some (22,k0bw,s0bw):=by kernel_rfl

def q88:IC:=zr [zv 4 zf]
def q2w:IC:=zr [zm 6 0,zv 7 (.len false (.t 6)),zm 8 1,zv 9 (.len false (.t 8)),zv 10 (.bin .neq .no (.t 7) (.t 9))]
def qbaq:IC:=zr [zv 4 zf]
def qbao:IC:=zr [zv 5 (.mov (zc 0))]
def q75:IC:=zr [zm 11 5,zm 12 0,zv 13 (.len false (.t 12)),zv 14 (.bin .lss .no (.t 11) (.t 13))]
def q48:IC:=.drw [zp (zm 17 0),zp (zm 18 5),zp (zv 19 (.iad 1 (.t 17) (.t 18))),zp (zv 20 (zg 1 19)),zp (zm 21 1),zp (zm 22 5),zp (zv 23 (.iad 1 (.t 21) (.t 22))),zp (zv 24 (zg 1 23)),zp (zv 25 (.bin .neq .no (.t 20) (.t 24)))]
def qba0:IC:=zr [zv 4 zf]
def qbax:IC:=zr [zm 15 5,zv 16 (.bin .add .no (.t 15) (zc 1)),zm 5 16]
def q6i:IC:=(.seq (.seq q75 (.cond (.t 14) .skip (.exit 0))) (.seq (.block 1 (.seq q48 (.cond (.t 25) (.seq qba0 .ret) .skip))) qbax))
def qx0:IC:=zr [zv 4 (.mov (.c (.bool true)))]
def k0cc:IC:=(.seq q88 (.seq (.seq q2w (.cond (.t 10) (.seq qbaq .ret) .skip)) (.seq (.seq qbao (.block 0 (.loop q6i))) (.seq qx0 .ret))))
@[go_sem] def s0cc:List (RV×Co):=[(.t 4,.id)]
theorem c0cc:cFun Try.prog 17 = some (26,k0cc,s0cc):=by kernel_rfl

def q4h:IC:=zr [zi 1 (.box (.t 0)),zv 2 (.mov (.c .nils))]
def qbac:IC:=zr [zi 3 (.alo [.nils])]
def q0j:IC:=zr [zv 4 (zl 3 1),zv 5 (.mfn 45 [] [(.t 3)]),zi 6 (zk 38 [((.t 4),(.agg [.id,.id,(.sl 3)])),((zc 1),.id),zI 5])]
def q5q:IC:=zr [zv 7 (zg 1 3),zm 2 7]
def k0ce:IC:=(.seq q4h (.seq qbac (.seq q0j (.seq q5q .ret))))
@[go_sem] def s0ce:List (RV×Co):=[(.t 2,(.sl 1))]
theorem c0ce:cFun Try.prog 18 = some (8,k0ce,s0ce):=by kernel_rfl

def qbaw:IC:=zr [zi 2 (.box (.t 0)),zi 3 (.box (.t 1)),zv 4 zf]
def q8v:IC:=zr [zv 5 (zl 3 2),zv 6 (.mfn 49 [] [(.t 3)]),zi 7 (zk 38 [((.t 5),(.agg [.id,.id,(.sl 3)])),((zc 1),.id),zI 6]),zv 8 (.un .not (.t 7)),zm 4 8]
def k0cq:IC:=(.seq qbaw (.seq q8v .ret))
@[go_sem] def s0cq:List (RV×Co):=[(.t 4,.id)]
theorem c0cq:cFun Try.prog 20 = some (9,k0cq,s0cq):=by kernel_rfl

def qbcv:IC:=zr [zi 2 (.box (.t 0)),zi 3 (.box (.t 1)),zv 4 zf]
def qbd8:IC:=.drw [zp (zv 6 (zl 3 2)),(zi 7 (zk 40 [((.t 6),(.agg [.id,.id,(.sl 3)]))]),[]),(zv 8 (zl 3 3),[1]),(zi 9 (zk 40 [((.t 8),(.agg [.id,.id,(.sl 3)]))]),[]),(zv 10 (.bin .neq (.cells [.str,(.int .i64),(.int .i64)]) (.t 7) (.t 9)),[])]
def qbhk:IC:=zr [zv 4 zf]
def qbep:IC:=zr [zv 11 (zd 2 2),zv 12 (zg 1 11),zv 13 (.len false (.t 12)),zv 14 (.mov (zc 0))]
def qbfs:IC:=zr [zv 15 (.bin .lss .no (.t 14) (.t 13))]
def qbgk:IC:=zr [zm 16 14,zm 5 16]
def qbfm:IC:=.drw [zp (zv 17 (zd 2 2)),zp (zv 18 (zg 1 17)),zp (zm 19 5),zp (zv 20 (.iad 3 (.t 18) (.t 19))),zp (zv 21 (zl 3 20)),zp (zv 22 (zd 3 2)),zp (zv 23 (zg 1 22)),zp (zm 24 5),zp (zv 25 (.iad 3 (.t 23) (.t 24))),zp (zv 26 (zl 3 25)),(zi 27 (zk 22 [((.t 21),(.agg [.id,.id,(.sl 3)])),((.t 26),(.agg [.id,.id,(.sl 3)]))]),[]),zp (zv 28 (.un .not (.t 27)))]
def qbh2:IC:=zr [zv 4 zf]
def qbb9:IC:=zr [zv 29 (.bin .add .no (.t 14) (zc 1)),zm 14 29]
def qbfv:IC:=(.seq qbfs (.seq (.cond (.t 15) .skip (.exit 0)) (.seq (.block 1 (.seq qbgk (.seq qbfm (.cond (.t 28) (.seq qbh2 .ret) .skip)))) qbb9)))
def q30:IC:=zr [zv 4 (.mov (.c (.bool true)))]
def k0l:IC:=(.seq qbcv (.seq (.seq qbd8 (.cond (.t 10) (.seq qbhk .ret) .skip)) (.seq (.seq qbep (.block 0 (.loop qbfv))) (.seq q30 .ret))))
@[go_sem] def s0l:List (RV×Co):=[(.t 4,.id)]
theorem c0l:cFun Try.prog 22 = some (30,k0l,s0l):=by kernel_rfl

def qbet:IC:=zr [zi 2 (.box (.t 0)),zi 3 (.box (.t 1)),zv 4 zf]
def qbeq:IC:=zr [zv 6 (zd 2 0),zv 7 (zg 1 6),zv 8 (zd 3 0),zv 9 (zg 1 8),zv 10 (.bin .neq .no (.t 7) (.t 9)),zm 11 10,zw 11 false 12 (zd 2 1),zw 11 false 13 (zg 1 12),zw 11 false 14 (zd 3 1),zw 11 false 15 (zg 1 14),zw 11 false 16 (.bin .neq .no (.t 13) (.t 15)),zv 17 (.pick (.t 11) (.c (.bool true)) (.t 16)),zm 18 17,zw 18 false 19 (zd 2 2),zw 18 false 20 (zg 1 19),zw 18 false 21 (.len false (.t 20)),zw 18 false 22 (zd 3 2),zw 18 false 23 (zg 1 22),zw 18 false 24 (.len false (.t 23)),zw 18 false 25 (.bin .neq .no (.t 21) (.t 24)),zv 26 (.pick (.t 18) (.c (.bool true)) (.t 25))]
def qber:IC:=zr [zv 4 zf]
def qbge:IC:=zr [zv 5 (.mov (zc 0))]
def qbfo:IC:=zr [zm 27 5,zv 28 (zd 2 2),zv 29 (zg 1 28),zv 30 (.len false (.t 29)),zv 31 (.bin .lss .no (.t 27) (.t 30))]
def qbh9:IC:=.drw [zp (zv 34 (zd 2 2)),zp (zv 35 (zg 1 34)),zp (zm 36 5),zp (zv 37 (.iad 3 (.t 35) (.t 36))),zp (zv 38 (zl 3 37)),zp (zv 39 (zd 3 2)),zp (zv 40 (zg 1 39)),zp (zm 41 5),zp (zv 42 (.iad 3 (.t 40) (.t 41))),zp (zv 43 (zl 3 42)),(zi 44 (zk 23 [((.t 38),(.agg [.id,.id,(.sl 3)])),((.t 43),(.agg [.id,.id,(.sl 3)]))]),[]),zp (zv 45 (.un .not (.t 44)))]
def qbd3:IC:=zr [zv 4 zf]
def qbfu:IC:=zr [zm 32 5,zv 33 (.bin .add .no (.t 32) (zc 1)),zm 5 33]
def qbeu:IC:=(.seq (.seq qbfo (.cond (.t 31) .skip (.exit 0))) (.seq (.block 1 (.seq qbh9 (.cond (.t 45) (.seq qbd3 .ret) .skip))) qbfu))
def q3e:IC:=zr [zv 4 (.mov (.c (.bool true)))]
def k0m:IC:=(.seq qbet (.seq (.seq qbeq (.cond (.t 26) (.seq qber .ret) .skip)) (.seq (.seq qbge (.block 0 (.loop qbeu))) (.seq q3e .ret))))
@[go_sem] def s0m:List (RV×Co):=[(.t 4,.id)]
theorem c0m:cFun Try.prog 23 = some (46,k0m,s0m):=by kernel_rfl

def q36:IC:=zr [zi 3 (.box (.t 1)),zi 4 (.alo [(.str []),(.int .i64 0),.nils])]
def q6c:IC:=zr [zm 7 0,zi 8 (zk 51 [((.t 7),(.sl 3))])]
def q0i:IC:=zr [zv 11 (zl 3 6),zv 12 (zl 3 3),zv 13 (.bsl 3 [((.t 11),(.agg [.id,.id,(.sl 3)])),((.t 12),(.agg [.id,.id,(.sl 3)]))]),zv 14 (.bld [(.str []),(.int .i64 0),.nils] [(0,1,(.c (.str [45,62]))),(2,1,(.t 13))]),zn (.st 3 (.agg [.id,.id,(.sl 3)]) (.t 3) (.t 14))]
def qsg:IC:=(.block 1 q0i)
def qt3:IC:=zr [zi 6 (.alo [(.str []),(.int .i64 0),.nils]),zn (.st 3 (.agg [.id,.id,(.sl 3)]) (.t 6) (.t 10))]
def q3g:IC:=zr [zv 15 (zl 3 3),zn (.st 3 (.agg [.id,.id,(.sl 3)]) (.t 4) (.t 15))]
def k0cu:IC:=(.seq q36 (.seq (.seq q6c (.block 0 (.rng (.t 8) [9,10] qt3 qsg))) (.seq q3g .ret)))
@[go_sem] def s0cu:List (RV×Co):=[(.c true 3 4,(.agg [.id,.id,(.sl 3)]))]
theorem c0cu:cFun Try.prog 24 = some (16,k0cu,s0cu):=by kernel_rfl

def q5h:IC:=zr [zi 1 (.box (.t 0)),zv 2 (.mov (.c .nils)),zi 3 (.alo [(.str []),(.int .i64 0),.nils])]
def qbbj:IC:=zr [zv 4 (.mov (.c .nils))]
def q5t:IC:=zr [zv 5 (zd 1 0),zv 6 (zg 1 5),zv 7 (zq (.t 6) (.c (.str [45,62]))),zm 8 7,zw 8 true 9 (zd 1 2),zw 8 true 10 (zg 1 9),zw 8 true 11 (.len false (.t 10)),zw 8 true 12 (zq (.t 11) (zc 2)),zv 13 (.pick (.t 8) (.t 12) (.c (.bool false)))]
def qbbs:IC:=.drw [zp (zm 14 4),zp (zv 15 (zd 1 2)),zp (zv 16 (zg 1 15)),zp (zv 17 (.iad 3 (.t 16) (zc 0))),zp (zv 18 (zl 3 17)),(zv 19 (.bsl 3 [((.t 18),(.agg [.id,.id,(.sl 3)]))]),[]),(zi 20 (.app 3 (.agg [(.str []),(.int .i64 0),.nils]) 48 (.sl 3) (.t 14) (.t 19)),[]),zp (zv 21 (zd 1 2)),(zv 22 (zg 1 21),[6]),zp (zv 23 (.iad 3 (.t 22) (zc 1))),(zv 24 (zl 3 23),[6]),zp (zm 4 20),(zn (.st 3 (.agg [.id,.id,(.sl 3)]) (.t 1) (.t 24)),[])]
def q3j:IC:=(.seq (.seq q5t (.cond (.t 13) .skip (.exit 0))) (.block 1 qbbs))
def q0w:IC:=.drw [zp (zm 25 4),zp (zv 26 (zl 3 1)),zp (zm 2 25),(zn (.st 3 (.agg [.id,.id,(.sl 3)]) (.t 3) (.t 26)),[])]
def k0cw:IC:=(.seq q5h (.seq qbbj (.seq (.block 0 (.loop q3j)) (.seq q0w .ret))))
@[go_sem] def s0cw:List (RV×Co):=[(.t 2,(.sl 3)),(.c true 3 3,(.agg [.id,.id,(.sl 3)]))]
theorem c0cw:cFun Try.prog 25 = some (27,k0cw,s0cw):=by kernel_rfl

def q96:IC:=zr [zi 1 (.box (.t 0)),zv 2 (.mov (.c .nils)),zi 3 (.alo [(.str []),(.int .i64 0),.nils])]
def q45:IC:=zr [zv 4 (.mov (.c .nils))]
def q83:IC:=zr [zv 5 (zd 1 0),zv 6 (zg 1 5),zv 7 (zq (.t 6) (.c (.str [45,62]))),zm 8 7,zw 8 true 9 (zd 1 2),zw 8 true 10 (zg 1 9),zw 8 true 11 (.len false (.t 10)),zw 8 true 12 (zq (.t 11) (zc 2)),zv 13 (.pick (.t 8) (.t 12) (.c (.bool false)))]
def q54:IC:=zr [zm 14 4,zv 15 (zd 1 2),zv 16 (zg 1 15),zv 17 (.iad 3 (.t 16) (zc 0)),zv 18 (zl 3 17),zv 19 (.bsl 3 [((.t 18),(.agg [.id,.id,(.sl 3)]))]),zi 20 (.app 3 (.agg [(.str []),(.int .i64 0),.nils]) 48 (.sl 3) (.t 14) (.t 19)),zm 4 20]
def q31:IC:=zr [zv 21 (zd 1 2),zv 22 (zg 1 21),zv 23 (.iad 3 (.t 22) (zc 1)),zv 24 (zl 3 23),zn (.st 3 (.agg [.id,.id,(.sl 3)]) (.t 1) (.t 24))]
def q58:IC:=(.seq (.seq q83 (.cond (.t 13) .skip (.exit 0))) (.block 1 (.seq q54 q31)))
def q7u:IC:=.drw [zp (zm 25 4),zp (zv 26 (zl 3 1)),zp (zm 2 25),(zn (.st 3 (.agg [.id,.id,(.sl 3)]) (.t 3) (.t 26)),[])]
def k0cv:IC:=(.seq q96 (.seq q45 (.seq (.block 0 (.loop q58)) (.seq q7u .ret))))
@[go_sem] def s0cv:List (RV×Co):=[(.t 2,(.sl 3)),(.c true 3 3,(.agg [.id,.id,(.sl 3)]))]
theorem c0cv:cFun Try.prog 26 = some (27,k0cv,s0cv):=by kernel_rfl

def qbf1:IC:=zr [zi 2 (.alo [(.str []),(.int .i64 0),.nils]),zv 3 (.mov (zc 0))]
def qbgj:IC:=zr [zm 6 0,zv 7 (.bld [(.str []),(.int .i64 0),(.bool false)] [(0,1,(.t 6))]),zi 8 (.box (.t 7)),zm 4 8]
def qbd0:IC:=zr [zm 9 4,zi 10 (zk 53 [zI 9]),zi 5 (.alo [(.str []),(.int .i64 0),.nils]),zn (.st 3 (.agg [.id,.id,(.sl 3)]) (.t 5) (.t 10))]
def qbg6:IC:=zr [zm 11 4,zv 12 (.nck (.t 11)),zv 13 (zd 12 2),zv 14 (zg 1 13),zm 15 14,zw 15 false 16 (zo 4),zw 15 false 17 (.nck (.t 16)),zw 15 false 18 (zd 17 0),zw 15 false 19 (zg 1 18),zw 15 false 20 (.bin .neq .no (.t 19) (.c (.str []))),zv 21 (.pick (.t 15) (.c (.bool true)) (.t 20)),zm 22 21,zw 22 false 23 (zl 3 5),zj 22 false 24 (zk 31 [((.t 23),(.agg [.id,.id,(.sl 3)]))]),zw 22 false 25 (zo 0),zw 22 false 26 (.bin .neq .no (.t 24) (.t 25)),zv 27 (.pick (.t 22) (.c (.bool true)) (.t 26))]
def qbdg:IC:=zr [zv 28 (.bld [(.str []),(.int .i64 0),.nils] []),zn (.st 3 (.agg [.id,.id,(.sl 3)]) (.t 2) (.t 28)),zv 3 (.mov (zc 5))]
def qbdc:IC:=zr [zv 29 (zl 3 5),zn (.st 3 (.agg [.id,.id,(.sl 3)]) (.t 2) (.t 29)),zv 3 (.mov (zc 0))]
def k0c:IC:=(.seq qbf1 (.seq qbgj (.seq qbd0 (.seq (.seq qbg6 (.cond (.t 27) (.seq qbdg .ret) .skip)) (.seq qbdc .ret)))))
@[go_sem] def s0c:List (RV×Co):=[(.c true 3 2,(.agg [.id,.id,(.sl 3)])),(.t 3,.id)]
theorem c0c:cFun Try.prog 29 = some (30,k0c,s0c):=by kernel_rfl

def q46:IC:=zr [zi 2 (.alo [(.str []),(.int .i64 0),.nils]),zv 3 (.mov (zc 0))]
def q3q:IC:=zr [zm 8 0,zi 9 (zk 54 [zI 8,((zc 300),.id)]),zm 7 9,zv 10 (zx 7 0),zv 11 (zx 7 1),zv 12 (zx 7 2),zi 4 (.alo [(.str []),(.int .i64 0),.nils]),zn (.st 3 (.agg [.id,.id,(.sl 3)]) (.t 4) (.t 10)),zm 5 11,zm 6 12]
def q0o:IC:=zr [zm 13 6,zv 14 (.un .not (.t 13)),zm 15 14,zw 15 false 16 (zo 5),zw 15 false 17 (.bin .neq .no (.t 16) (.c (.str []))),zv 18 (.pick (.t 15) (.c (.bool true)) (.t 17)),zm 19 18,zw 19 false 20 (zl 3 4),zj 19 false 21 (zk 12 [((.t 20),(.agg [.id,.id,(.sl 3)]))]),zw 19 false 22 (.un .not (.t 21)),zv 23 (.pick (.t 19) (.c (.bool true)) (.t 22)),zm 24 23,zw 24 false 25 (zl 3 4),zj 24 false 26 (zk 55 [((.t 25),(.agg [.id,.id,(.sl 3)]))]),zw 24 false 27 (zo 0),zw 24 false 28 (.bin .neq .no (.t 26) (.t 27)),zv 29 (.pick (.t 24) (.c (.bool true)) (.t 28))]
def q61:IC:=zr [zv 30 (.bld [(.str []),(.int .i64 0),.nils] []),zn (.st 3 (.agg [.id,.id,(.sl 3)]) (.t 2) (.t 30)),zv 3 (.mov (zc 5))]
def q6b:IC:=zr [zv 31 (zl 3 4),zn (.st 3 (.agg [.id,.id,(.sl 3)]) (.t 2) (.t 31)),zv 3 (.mov (zc 0))]
def k0ci:IC:=(.seq q46 (.seq q3q (.seq (.seq q0o (.cond (.t 29) (.seq q61 .ret) .skip)) (.seq q6b .ret))))
@[go_sem] def s0ci:List (RV×Co):=[(.c true 3 2,(.agg [.id,.id,(.sl 3)])),(.t 3,.id)]
theorem c0ci:cFun Try.prog 30 = some (32,k0ci,s0ci):=by kernel_rfl

def qbe2:IC:=zr [zi 1 (.box (.t 0)),zv 2 (.mov (.c (.str [])))]
def qbgr:IC:=zr [zv 3 (zl 3 1),zi 4 (zk 11 [((.t 3),(.agg [.id,.id,(.sl 3)]))]),zv 5 (.un .not (.t 4))]
def qbhr:IC:=zr [zv 2 (.mov (.c (.str [])))]
def qbc7:IC:=zr [zv 6 (zl 3 1),zi 7 (zk 56 [((.t 6),(.agg [.id,.id,(.sl 3)]))]),zm 2 7]
def k0b:IC:=(.seq qbe2 (.seq (.seq qbgr (.cond (.t 5) (.seq qbhr .ret) .skip)) (.seq qbc7 .ret)))
@[go_sem] def s0b:List (RV×Co):=[(.t 2,.id)]
theorem c0b:cFun Try.prog 31 = some (8,k0b,s0b):=by kernel_rfl

def q1n:IC:=zr [zi 1 (.box (.t 0)),zv 2 (.mov (.c (.str [])))]
def q64:IC:=zr [zv 3 (zl 3 1),zi 4 (zk 12 [((.t 3),(.agg [.id,.id,(.sl 3)]))]),zv 5 (.un .not (.t 4))]
def q2k:IC:=zr [zv 2 (.mov (.c (.str [])))]
def q8x:IC:=zr [zv 6 (zl 3 1),zi 7 (zk 55 [((.t 6),(.agg [.id,.id,(.sl 3)]))]),zm 2 7]
def k0cf:IC:=(.seq q1n (.seq (.seq q64 (.cond (.t 5) (.seq q2k .ret) .skip)) (.seq q8x .ret)))
@[go_sem] def s0cf:List (RV×Co):=[(.t 2,.id)]
theorem c0cf:cFun Try.prog 32 = some (8,k0cf,s0cf):=by kernel_rfl

def q2u:IC:=zr [zi 3 (.box (.t 0)),zv 6 (.mov (zc 0))]
def q72:IC:=zr [zm 8 1,zv 9 (.bin .sub .no (.t 8) (zc 1)),zm 1 9]
def q8s:IC:=zr [zm 10 2,zv 11 (.bin .lss .no (.t 10) (zc 1))]
def q1z:IC:=zr [zv 6 (.mov (zc (-1)))]
def q2d:IC:=zr [zv 7 (.mov (zc 0))]
def qbas:IC:=zr [zm 12 7,zv 13 (zd 3 2),zv 14 (zg 1 13),zv 15 (.len false (.t 14)),zv 16 (.bin .lss .no (.t 12) (.t 15)),zm 17 16,zw 17 true 18 (zo 1),zw 17 true 19 (.bin .geq .no (.t 18) (zc 0)),zv 20 (.pick (.t 17) (.t 19) (.c (.bool false)))]
def q5d:IC:=zr [zv 23 (zd 3 2),zv 24 (zg 1 23),zm 25 7,zv 26 (.iad 3 (.t 24) (.t 25)),zv 27 (zl 3 26),zm 28 1,zm 29 2,zv 30 (.bin .sub .no (.t 29) (zc 1)),zi 31 (zk 37 [((.t 27),(.agg [.id,.id,(.sl 3)])),zI 28,zI 30]),zm 1 31]
def qbag:IC:=zr [zm 21 7,zv 22 (.bin .add .no (.t 21) (zc 1)),zm 7 22]
def q1j:IC:=(.seq (.seq qbas (.cond (.t 20) .skip (.exit 0))) (.seq (.block 1 q5d) qbag))
def qwn:IC:=zr [zm 32 1,zm 6 32]
def k0by:IC:=(.seq q2u (.seq q72 (.seq (.seq q8s (.cond (.t 11) (.seq q1z .ret) .skip)) (.seq (.seq q2d (.block 0 (.loop q1j))) (.seq qwn .ret)))))
@[go_sem] def s0by:List (RV×Co):=[(.t 6,.id)]
theorem c0by:cFun Try.prog 37 = some (33,k0by,s0by):=by kernel_rfl

def qbhb:IC:=zr [zi 3 (.box (.t 0)),zv 6 zf]
def qbhi:IC:=zr [zm 9 2,zv 10 (zl 3 3),zm 11 1,zi 12 (.call (.t 9) [((.t 10),(.agg [.id,.id,(.sl 3)])),zI 11]),zv 13 (.un .not (.t 12))]
def qbd6:IC:=zr [zv 6 zf]
def qbg7:IC:=zr [zv 14 (zd 3 2),zv 15 (zg 1 14),zv 16 (.len false (.t 15)),zv 17 (.mov (zc 0))]
def qbig:IC:=zr [zv 18 (.bin .lss .no (.t 17) (.t 16))]
def qbh5:IC:=zr [zv 19 (.iad 3 (.t 15) (.t 17)),zv 20 (zl 3 19),zi 8 (.alo [(.str []),(.int .i64 0),.nils]),zn (.st 3 (.agg [.id,.id,(.sl 3)]) (.t 8) (.t 20))]
def qbhx:IC:=zr [zv 21 (zl 3 8),zm 22 1,zv 23 (.bin .add .no (.t 22) (zc 1)),zm 24 2,zi 25 (zk 38 [((.t 21),(.agg [.id,.id,(.sl 3)])),zI 23,zI 24]),zv 26 (.un .not (.t 25))]
def qbb8:IC:=zr [zv 6 zf]
def qbgc:IC:=zr [zv 27 (.bin .add .no (.t 17) (zc 1)),zm 17 27]
def qbew:IC:=(.seq qbig (.seq (.cond (.t 18) .skip (.exit 0)) (.seq (.block 1 (.seq qbh5 (.seq qbhx (.cond (.t 26) (.seq qbb8 .ret) .skip)))) qbgc)))
def q7z:IC:=zr [zv 6 (.mov (.c (.bool true)))]
def k0q:IC:=(.seq qbhb (.seq (.seq qbhi (.cond (.t 13) (.seq qbd6 .ret) .skip)) (.seq (.seq qbg7 (.block 0 (.loop qbew))) (.seq q7z .ret))))
@[go_sem] def s0q:List (RV×Co):=[(.t 6,.id)]
theorem c0q:cFun Try.prog 38 = some (28,k0q,s0q):=by kernel_rfl

def q73:IC:=zr [zi 3 (.box (.t 0)),zv 5 zf]
def qbbf:IC:=zr [zv 6 (zg 1 2),zv 7 (.bin .add .no (.t 6) (zc 1)),zn (.st 1 .id (.t 2) (.t 7))]
def q0m:IC:=zr [zv 8 (zg 1 2),zv 9 (.bin .leq .no (.t 8) (zc 4096)),zm 10 9,zw 10 true 11 (zo 1),zw 10 true 12 (.bin .leq .no (.t 11) (zc 100)),zv 13 (.pick (.t 10) (.t 12) (.c (.bool false))),zm 14 13,zw 14 true 15 (zl 3 3),zj 14 true 16 (zk 40 [((.t 15),(.agg [.id,.id,(.sl 3)]))]),zj 14 true 17 (zk 41 [zI 16]),zv 18 (.pick (.t 14) (.t 17) (.c (.bool false))),zm 5 18]
def k0bp:IC:=(.seq q73 (.seq qbbf (.seq q0m .ret)))
@[go_sem] def s0bp:List (RV×Co):=[(.t 5,.id)]
theorem c0bp:cFun Try.prog 39 = some (19,k0bp,s0bp):=by kernel_rfl

def qbc9:IC:=zr [zi 1 (.box (.t 0)),zi 2 (.alo [(.str []),(.int .i64 0),(.int .i64 0)])]
def qbff:IC:=zr [zv 3 (zd 1 0),zv 4 (zg 1 3),zv 5 (zd 1 1),zv 6 (zg 1 5),zv 7 (zd 1 2),zv 8 (zg 1 7),zv 9 (.len false (.t 8)),zv 10 (.bld [(.str []),(.int .i64 0),(.int .i64 0)] [(0,1,(.t 4)),(1,1,(.t 6)),(2,1,(.t 9))]),zn (.st 3 .id (.t 2) (.t 10))]
def k0k:IC:=(.seq qbc9 (.seq qbff .ret))
@[go_sem] def s0k:List (RV×Co):=[(.c true 3 2,.id)]
theorem c0k:cFun Try.prog 40 = some (11,k0k,s0k):=by kernel_rfl

def qbb3:IC:=zr [zi 1 (.box (.t 0)),zv 2 zf]
def qbd1:IC:=zr [zv 4 (zd 1 0),zv 5 (zg 1 4),zv 6 (zq (.t 5) (.c (.str []))),zm 3 6]
def qbfc:IC:=zr [zv 7 (zd 1 2),zv 8 (zg 1 7),zv 9 (zq (.t 8) (zc 0)),zm 2 9]
def qbby:IC:=zr [zv 11 (zd 1 0),zv 12 (zg 1 11),zv 13 (zq (.t 12) (.c (.str [45,62]))),zm 10 13]
def qbc5:IC:=zr [zv 14 (zl 3 1),zv 15 (.bld [(.str []),(.int .i64 0),(.int .i64 0)] [(0,1,(.c (.str [45,62]))),(1,1,(zc 0)),(2,1,(zc 2))]),zv 16 (.bin .eql (.cells [.str,(.int .i64),(.int .i64)]) (.t 14) (.t 15)),zm 2 16]
def qbho:IC:=zr [zv 18 (zd 1 0),zv 19 (zg 1 18),zi 20 (zk 65 [zI 19]),zm 17 20]
def qbcb:IC:=zr [zv 21 (zl 3 1),zv 22 (zd 1 0),zv 23 (zg 1 22),zv 24 (.bld [(.str []),(.int .i64 0),(.int .i64 0)] [(0,1,(.t 23))]),zv 25 (.bin .eql (.cells [.str,(.int .i64),(.int .i64)]) (.t 21) (.t 24)),zm 2 25]
def qbik:IC:=zr [zv 26 (zd 1 1),zv 27 (zg 1 26),zv 28 (zq (.t 27) (zc 0)),zm 29 28,zw 29 true 30 (zd 1 0),zw 29 true 31 (zg 1 30),zj 29 true 32 (zk 66 [zI 31]),zv 33 (.pick (.t 29) (.t 32) (.c (.bool false))),zm 2 33]
def k0p:IC:=(.seq qbb3 (.seq (.block 0 (.seq qbd1 (.cond (.t 3) (.seq qbfc .ret) (.seq qbby (.cond (.t 10) (.seq qbc5 .ret) (.seq qbho (.cond (.t 17) (.seq qbcb .ret) .skip))))))) (.seq qbik .ret)))
@[go_sem] def s0p:List (RV×Co):=[(.t 2,.id)]
theorem c0p:cFun Try.prog 41 = some (34,k0p,s0p):=by kernel_rfl

def q6z:IC:=zr [zi 1 (.box (.t 0)),zv 2 zf]
def q6t:IC:=zr [zv 3 (.mov (zc 0))]
def qbal:IC:=zr [zm 5 3,zv 6 (zd 1 2),zv 7 (zg 1 6),zv 8 (.len false (.t 7)),zv 9 (.bin .lss .no (.t 5) (.t 8))]
def q3l:IC:=zr [zv 12 (zd 1 2),zv 13 (zg 1 12),zm 14 3,zv 15 (.iad 3 (.t 13) (.t 14)),zv 16 (zl 3 15),zi 17 (zk 42 [((.t 16),(.agg [.id,.id,(.sl 3)]))]),zv 18 (.un .not (.t 17))]
def q7b:IC:=zr [zv 2 zf]
def q19:IC:=zr [zm 10 3,zv 11 (.bin .add .no (.t 10) (zc 1)),zm 3 11]
def q7y:IC:=(.seq (.seq qbal (.cond (.t 9) .skip (.exit 0))) (.seq (.block 1 (.seq q3l (.cond (.t 18) (.seq q7b .ret) .skip))) q19))
def q7q:IC:=zr [zv 19 (zd 1 2),zv 20 (zg 1 19),zv 21 (.len false (.t 20)),zm 4 21]
def q9t:IC:=zr [zv 23 (zd 1 0),zv 24 (zg 1 23),zv 25 (zq (.t 24) (.c (.str []))),zm 22 25]
def qzl:IC:=zr [zm 26 4,zv 27 (zq (.t 26) (zc 0)),zm 2 27]
def qyc:IC:=zr [zv 29 (zd 1 0),zv 30 (zg 1 29),zv 31 (zq (.t 30) (.c (.str [45,62]))),zm 28 31]
def qxu:IC:=zr [zm 32 4,zv 33 (zq (.t 32) (zc 2)),zm 34 33,zw 34 true 35 (zd 1 1),zw 34 true 36 (zg 1 35),zw 34 true 37 (zq (.t 36) (zc 0)),zv 38 (.pick (.t 34) (.t 37) (.c (.bool false))),zm 2 38]
def qwr:IC:=zr [zv 40 (zd 1 0),zv 41 (zg 1 40),zi 42 (zk 67 [zI 41]),zm 39 42]
def qy1:IC:=zr [zm 43 4,zv 44 (zq (.t 43) (zc 0)),zm 45 44,zw 45 true 46 (zd 1 1),zw 45 true 47 (zg 1 46),zw 45 true 48 (zq (.t 47) (zc 0)),zv 49 (.pick (.t 45) (.t 48) (.c (.bool false))),zm 2 49]
def qwl:IC:=zr [zv 50 (zd 1 0),zv 51 (zg 1 50),zi 52 (zk 68 [zI 51]),zm 53 52,zw 53 true 54 (zd 1 1),zw 53 true 55 (zg 1 54),zw 53 true 56 (zq (.t 55) (zc 0)),zv 57 (.pick (.t 53) (.t 56) (.c (.bool false))),zm 2 57]
def k0bx:IC:=(.seq q6z (.seq (.seq q6t (.block 0 (.loop q7y))) (.seq q7q (.seq (.block 2 (.seq q9t (.cond (.t 22) (.seq qzl .ret) (.seq qyc (.cond (.t 28) (.seq qxu .ret) (.seq qwr (.cond (.t 39) (.seq qy1 .ret) .skip))))))) (.seq qwl .ret)))))
@[go_sem] def s0bx:List (RV×Co):=[(.t 2,.id)]
theorem c0bx:cFun Try.prog 42 = some (58,k0bx,s0bx):=by kernel_rfl

def q8o:IC:=zr [zi 3 (.box (.t 0)),zv 5 zf]
def q35:IC:=zr [zv 6 (zg 1 2),zv 7 (.bin .add .no (.t 6) (zc 1)),zn (.st 1 .id (.t 2) (.t 7))]
def q5l:IC:=zr [zv 5 (.mov (.c (.bool true)))]
def k0bq:IC:=(.seq q8o (.seq q35 (.seq q5l .ret)))
@[go_sem] def s0bq:List (RV×Co):=[(.t 5,.id)]
theorem c0bq:cFun Try.prog 43 = some (8,k0bq,s0bq):=by kernel_rfl

def q62:IC:=zr [zi 3 (.box (.t 0)),zv 5 zf]
def q2l:IC:=zr [zv 6 (zg 1 2),zm 7 1,zv 8 (.mm true (.t 6) (.t 7)),zn (.st 1 .id (.t 2) (.t 8))]
def q8j:IC:=zr [zv 5 (.mov (.c (.bool true)))]
def k0br:IC:=(.seq q62 (.seq q2l (.seq q8j .ret)))
@[go_sem] def s0br:List (RV×Co):=[(.t 5,.id)]
theorem c0br:cFun Try.prog 44 = some (9,k0br,s0br):=by kernel_rfl

def q3k:IC:=zr [zi 3 (.box (.t 0)),zv 5 zf]
def q95:IC:=zr [zv 6 (zd 3 0),zv 7 (zg 1 6),zv 8 (zq (.t 7) (.c (.str []))),zm 9 8,zw 9 true 10 (zg 1 2),zw 9 true 11 (zd 3 1),zw 9 true 12 (zg 1 11),zj 9 true 13 (zk 46 [((.t 10),(.sl 1)),zI 12]),zw 9 true 14 (.un .not (.t 13)),zv 15 (.pick (.t 9) (.t 14) (.c (.bool false)))]
def q3w:IC:=zr [zv 16 (zg 1 2),zv 17 (zd 3 1),zv 18 (zg 1 17),zv 19 (.bsl 1 [zI 18]),zi 20 (.app 1 (.int .i64 0) 8 (.sl 1) (.t 16) (.t 19)),zn (.st 1 (.sl 1) (.t 2) (.t 20))]
def q6j:IC:=zr [zv 5 (.mov (.c (.bool true)))]
def k0cd:IC:=(.seq q3k (.seq (.seq q95 (.cond (.t 15) q3w .skip)) (.seq q6j .ret)))
@[go_sem] def s0cd:List (RV×Co):=[(.t 5,.id)]
theorem c0cd:cFun Try.prog 45 = some (21,k0cd,s0cd):=by kernel_rfl

def q9o:IC:=zr [zv 4 zf]
def q8z:IC:=zr [zm 5 0,zm 6 1,zi 7 (zk 69 [((.t 5),(.sl 1)),zI 6]),zv 8 (.bin .geq .no (.t 7) (zc 0)),zm 4 8]
def k0cb:IC:=(.seq q9o (.seq q8z .ret))
@[go_sem] def s0cb:List (RV×Co):=[(.t 4,.id)]
theorem c0cb:cFun Try.prog 46 = some (9,k0cb,s0cb):=by kernel_rfl

def q4j:IC:=zr [zi 3 (.box (.t 0)),zv 5 zf]
def q2q:IC:=zr [zv 6 (zd 3 0),zv 7 (zg 1 6),zv 8 (.bin .neq .no (.t 7) (.c (.str []))),zm 9 8,zw 9 false 10 (zd 3 1),zw 9 false 11 (zg 1 10),zw 9 false 12 (zg 1 2),zw 9 false 13 (.bin .neq .no (.t 11) (.t 12)),zv 14 (.pick (.t 9) (.c (.bool true)) (.t 13)),zm 5 14]
def k0cp:IC:=(.seq q4j (.seq q2q .ret))
@[go_sem] def s0cp:List (RV×Co):=[(.t 5,.id)]
theorem c0cp:cFun Try.prog 49 = some (15,k0cp,s0cp):=by kernel_rfl

def q6h:IC:=zr [zi 1 (.box (.t 0)),zv 2 (.mov (.c .nilf))]
def q4y:IC:=zr [zv 3 (.mfn 70 [] [(.t 1)]),zm 2 3]
def k0cs:IC:=(.seq q6h (.seq q4y .ret))
@[go_sem] def s0cs:List (RV×Co):=[(.t 2,.id)]
theorem c0cs:cFun Try.prog 51 = some (4,k0cs,s0cs):=by kernel_rfl

def qbad:IC:=zr [zi 2 (.box (.t 0)),zi 3 (.box (.t 1)),zi 4 (.alo [(.str []),(.int .i64 0),.nils])]
def q3c:IC:=zr [zv 5 (zl 3 2),zv 6 (zl 3 3),zv 7 (.bsl 3 [((.t 5),(.agg [.id,.id,(.sl 3)])),((.t 6),(.agg [.id,.id,(.sl 3)]))]),zv 8 (.bld [(.str []),(.int .i64 0),.nils] [(0,1,(.c (.str [45,62]))),(2,1,(.t 7))]),zn (.st 3 (.agg [.id,.id,(.sl 3)]) (.t 4) (.t 8))]
def k0cr:IC:=(.seq qbad (.seq q3c .ret))
@[go_sem] def s0cr:List (RV×Co):=[(.c true 3 4,(.agg [.id,.id,(.sl 3)]))]
theorem c0cr:cFun Try.prog 52 = some (9,k0cr,s0cr):=by kernel_rfl

def qbe4:IC:=zr [zi 1 (.box (.t 0)),zi 2 (.alo [(.str []),(.int .i64 0),.nils])]
def qbgo:IC:=zr [zv 4 (zg 1 1),zv 5 (.nck (.t 4)),zv 6 (zd 5 1),zv 7 (zg 1 6),zv 8 (.bin .add .no (.t 7) (zc 1)),zv 9 (.nck (.t 4)),zv 10 (zd 9 1),zn (.st 1 .id (.t 10) (.t 8))]
def qbf7:IC:=zr [zv 11 (zg 1 1),zv 12 (.nck (.t 11)),zv 13 (zd 12 1),zv 14 (zg 1 13),zv 15 (.bin .gtr .no (.t 14) (zc 200))]
def qbgp:IC:=zr [zv 16 (zg 1 1),zv 17 (.nck (.t 16)),zv 18 (zd 17 2),zn (.st 1 .id (.t 18) (.c (.bool true)))]
def qbh4:IC:=.dfr [zv 19 (.mfn 71 [] [(.t 1)])] (.t 19)
def qbgy:IC:=zr [zv 20 (zg 1 1),zv 21 (.nck (.t 20)),zv 22 (zd 21 2),zv 23 (zg 1 22)]
def qbfe:IC:=zr [zv 24 (.bld [(.str []),(.int .i64 0),.nils] []),zn (.st 3 (.agg [.id,.id,(.sl 3)]) (.t 2) (.t 24))]
def qbee:IC:=zr [zv 25 (zg 1 1),zi 26 (zk 72 [zI 25]),zi 3 (.alo [(.str []),(.int .i64 0),.nils]),zn (.st 3 (.agg [.id,.id,(.sl 3)]) (.t 3) (.t 26))]
def qbdf:IC:=zr [zv 27 (zg 1 1),zv 28 (.nck (.t 27)),zv 29 (zd 28 2),zv 30 (zg 1 29),zv 31 (.un .not (.t 30)),zm 32 31,zw 32 true 33 (zg 1 1),zw 32 true 34 (.nck (.t 33)),zw 32 true 35 (zd 34 0),zw 32 true 36 (zg 1 35),zj 32 true 37 (zk 73 [zI 36,((.c (.str [32,45,62,32])),.id)]),zw 32 true 38 (.un .not (.t 37)),zv 39 (.pick (.t 32) (.t 38) (.c (.bool false))),zm 40 39,zw 40 true 41 (zg 1 1),zj 40 true 42 (zk 74 [zI 41,((.c (.str [32])),.id)]),zv 43 (.pick (.t 40) (.t 42) (.c (.bool false)))]
def q7p:IC:=.drw [zp (zv 44 (zd 3 2)),zp (zv 45 (zg 1 44)),(zi 46 (zk 75 [((.t 45),(.sl 3))]),[]),(zv 47 (zg 1 1),[2]),(zi 48 (zk 72 [zI 47]),[]),(zv 49 (.bsl 3 [((.t 48),(.agg [.id,.id,(.sl 3)]))]),[]),(zi 50 (.app 3 (.agg [(.str []),(.int .i64 0),.nils]) 48 (.sl 3) (.t 46) (.t 49)),[]),zp (zv 51 (zd 3 2)),(zn (.st 1 (.sl 3) (.t 51) (.t 50)),[])]
def qoy:IC:=(.seq (.seq qbdf (.cond (.t 43) .skip (.exit 0))) (.block 1 q7p))
def q02:IC:=zr [zv 52 (zg 1 1),zv 53 (.nck (.t 52)),zv 54 (zd 53 2),zv 55 (zg 1 54),zv 56 (.un .not (.t 55)),zm 57 56,zw 57 true 58 (zg 1 1),zj 57 true 59 (zk 74 [zI 58,((.c (.str [32,45,62,32])),.id)]),zv 60 (.pick (.t 57) (.t 59) (.c (.bool false)))]
def q4d:IC:=.drw [zp (zv 61 (zl 3 3)),zp (zv 62 (zg 1 1)),(zi 63 (zk 53 [zI 62]),[0]),(zv 64 (.bsl 3 [((.t 61),(.agg [.id,.id,(.sl 3)])),((.t 63),(.agg [.id,.id,(.sl 3)]))]),[]),(zv 65 (.bld [(.str []),(.int .i64 0),.nils] [(0,1,(.c (.str [45,62]))),(2,1,(.t 64))]),[]),(zn (.st 3 (.agg [.id,.id,(.sl 3)]) (.t 2) (.t 65)),[])]
def q71:IC:=zr [zv 66 (zl 3 3),zn (.st 3 (.agg [.id,.id,(.sl 3)]) (.t 2) (.t 66))]
def k0d:IC:=(.seq qbe4 (.seq (.seq qbgo (.seq qbf7 (.cond (.t 15) qbgp .skip))) (.seq qbh4 (.seq (.seq qbgy (.cond (.t 23) (.seq qbfe .ret) .skip)) (.seq qbee (.seq (.block 0 (.loop qoy)) (.seq (.seq q02 (.cond (.t 60) (.seq q4d .ret) .skip)) (.seq q71 .ret))))))))
@[go_sem] def s0d:List (RV×Co):=[(.c true 3 2,(.agg [.id,.id,(.sl 3)]))]
theorem c0d:cFun Try.prog 53 = some (67,k0d,s0d):=by kernel_rfl

def q1w:IC:=zr [zi 4 (.alo [(.str []),(.int .i64 0),.nils]),zv 5 (.mov (.c (.str []))),zv 6 zf]
def q9q:IC:=zr [zm 13 1,zv 14 (.bin .lss .no (.t 13) (zc 1))]
def q0r:IC:=zr [zv 15 (.bld [(.str []),(.int .i64 0),.nils] []),zm 16 0,zn (.st 3 (.agg [.id,.id,(.sl 3)]) (.t 4) (.t 15)),zm 5 16,zv 6 zf]
def qbbl:IC:=zr [zm 18 0,zm 19 1,zi 20 (zk 76 [zI 18,zI 19]),zm 17 20,zv 21 (zx 17 0),zv 22 (zx 17 1),zv 23 (zx 17 2),zi 7 (.alo [(.str []),(.int .i64 0),.nils]),zn (.st 3 (.agg [.id,.id,(.sl 3)]) (.t 7) (.t 21)),zm 8 22,zm 9 23]
def q56:IC:=zr [zm 24 9,zm 25 24,zw 25 true 26 (zo 8),zw 25 true 27 (.len true (.t 26)),zw 25 true 28 (.bin .gtr .no (.t 27) (zc 4)),zv 29 (.pick (.t 25) (.t 28) (.c (.bool false))),zm 30 29,zw 30 true 31 (zo 8),zw 30 true 32 (.sls (.t 31) none (some (zc 4))),zw 30 true 33 (zq (.t 32) (.c (.str [32,45,62,32]))),zv 34 (.pick (.t 30) (.t 33) (.c (.bool false)))]
def q7j:IC:=zr [zm 36 8,zv 37 (.sls (.t 36) (some (zc 4)) none),zm 38 1,zv 39 (.bin .sub .no (.t 38) (zc 1)),zi 40 (zk 54 [zI 37,zI 39]),zm 35 40,zv 41 (zx 35 0),zv 42 (zx 35 1),zv 43 (zx 35 2),zi 10 (.alo [(.str []),(.int .i64 0),.nils]),zn (.st 3 (.agg [.id,.id,(.sl 3)]) (.t 10) (.t 41)),zm 11 42,zm 12 43]
def q5o:IC:=zr [zv 44 (zl 3 7),zv 45 (zl 3 10),zi 46 (zk 52 [((.t 44),(.agg [.id,.id,(.sl 3)])),((.t 45),(.agg [.id,.id,(.sl 3)]))]),zm 47 11,zm 48 12,zn (.st 3 (.agg [.id,.id,(.sl 3)]) (.t 4) (.t 46)),zm 5 47,zm 6 48]
def q81:IC:=zr [zv 49 (zl 3 7),zm 50 8,zm 51 9,zn (.st 3 (.agg [.id,.id,(.sl 3)]) (.t 4) (.t 49)),zm 5 50,zm 6 51]
def k0ck:IC:=(.seq q1w (.seq (.seq q9q (.cond (.t 14) (.seq q0r .ret) .skip)) (.seq qbbl (.seq (.seq q56 (.cond (.t 34) (.seq q7j (.seq q5o .ret)) .skip)) (.seq q81 .ret)))))
@[go_sem] def s0ck:List (RV×Co):=[(.c true 3 4,(.agg [.id,.id,(.sl 3)])),(.t 5,.id),(.t 6,.id)]
theorem c0ck:cFun Try.prog 54 = some (52,k0ck,s0ck):=by kernel_rfl

def q1o:IC:=zr [zi 1 (.box (.t 0)),zv 2 (.mov (.c (.str [])))]
def q9c:IC:=zr [zv 7 (zd 1 0),zv 8 (zg 1 7),zv 9 (zq (.t 8) (.c (.str []))),zm 10 9,zw 10 true 11 (zd 1 1),zw 10 true 12 (zg 1 11),zw 10 true 13 (.bin .geq .no (.t 12) (zc 0)),zv 14 (.pick (.t 10) (.t 13) (.c (.bool false))),zm 6 14]
def q5z:IC:=zr [zv 15 (zd 1 1),zv 16 (zg 1 15),zi 17 (zk 77 [zI 16]),zm 2 17]
def q9x:IC:=zr [zv 19 (zd 1 0),zv 20 (zg 1 19),zv 21 (zq (.t 20) (.c (.str []))),zm 18 21]
def q7n:IC:=zr [zv 22 (zd 1 1),zv 23 (zg 1 22),zv 24 (.bin .sub .no (zc (-1)) (.t 23)),zi 25 (zk 78 [zI 24]),zv 26 (.bin .add .no (.c (.str [63])) (.t 25)),zm 2 26]
def q6u:IC:=zr [zv 28 (zd 1 0),zv 29 (zg 1 28),zv 30 (zq (.t 29) (.c (.str [45,62]))),zm 27 30]
def q32:IC:=zr [zv 31 (zd 1 2),zv 32 (zg 1 31),zv 33 (.iad 3 (.t 32) (zc 0)),zv 34 (zl 3 33),zi 35 (zk 55 [((.t 34),(.agg [.id,.id,(.sl 3)]))]),zm 3 35]
def q5n:IC:=zr [zv 36 (zd 1 2),zv 37 (zg 1 36),zv 38 (.iad 3 (.t 37) (zc 0)),zv 39 (zd 38 0),zv 40 (zg 1 39),zv 41 (zq (.t 40) (.c (.str [45,62])))]
def q49:IC:=zr [zm 42 3,zv 43 (.bin .add .no (.c (.str [40])) (.t 42)),zv 44 (.bin .add .no (.t 43) (.c (.str [41]))),zm 3 44]
def q2p:IC:=zr [zm 45 3,zv 46 (.bin .add .no (.t 45) (.c (.str [32,45,62,32]))),zv 47 (zd 1 2),zv 48 (zg 1 47),zv 49 (.iad 3 (.t 48) (zc 1)),zv 50 (zl 3 49),zi 51 (zk 55 [((.t 50),(.agg [.id,.id,(.sl 3)]))]),zv 52 (.bin .add .no (.t 46) (.t 51)),zm 2 52]
def qxd:IC:=zr [zv 53 (zd 1 0),zv 54 (zg 1 53),zm 4 54]
def qvh:IC:=zr [zv 5 (.mov (zc 0))]
def qwy:IC:=zr [zm 55 5,zv 56 (zd 1 2),zv 57 (zg 1 56),zv 58 (.len false (.t 57)),zv 59 (.bin .lss .no (.t 55) (.t 58))]
def qym:IC:=zr [zm 62 4,zv 63 (zd 1 2),zv 64 (zg 1 63),zm 65 5,zv 66 (.iad 3 (.t 64) (.t 65)),zv 67 (zl 3 66),zi 68 (zk 79 [((.t 67),(.agg [.id,.id,(.sl 3)]))]),zv 69 (.bin .add .no (.c (.str [32])) (.t 68)),zv 70 (.bin .add .no (.t 62) (.t 69)),zm 4 70]
def qw2:IC:=zr [zm 60 5,zv 61 (.bin .add .no (.t 60) (zc 1)),zm 5 61]
def qx8:IC:=(.seq (.seq qwy (.cond (.t 59) .skip (.exit 1))) (.seq (.block 2 qym) qw2))
def qwf:IC:=zr [zm 71 4,zm 2 71]
def k0bo:IC:=(.seq q1o (.seq (.block 0 (.seq q9c (.cond (.t 6) (.seq q5z .ret) (.seq q9x (.cond (.t 18) (.seq q7n .ret) (.seq q6u (.cond (.t 27) (.seq q32 (.seq (.seq q5n (.cond (.t 41) q49 .skip)) (.seq q2p .ret))) .skip))))))) (.seq qxd (.seq (.seq qvh (.block 1 (.loop qx8))) (.seq qwf .ret)))))
@[go_sem] def s0bo:List (RV×Co):=[(.t 2,.id)]
theorem c0bo:cFun Try.prog 55 = some (72,k0bo,s0bo):=by kernel_rfl

def q6p:IC:=zr [zi 1 (.box (.t 0)),zv 2 (.mov (.c (.str [])))]
def q1u:IC:=zr [zv 6 (zd 1 0),zv 7 (zg 1 6),zv 8 (zq (.t 7) (.c (.str [45,62])))]
def qbbd:IC:=.drw [zp (zv 9 (zd 1 2)),zp (zv 10 (zg 1 9)),zp (zv 11 (.iad 3 (.t 10) (zc 0))),zp (zv 12 (zl 3 11)),zp (zv 13 (zd 1 2)),zp (zv 14 (zg 1 13)),zp (zv 15 (.iad 3 (.t 14) (zc 0))),zp (zv 16 (zd 15 0)),zp (zv 17 (zg 1 16)),(zv 18 (zq (.t 17) (.c (.str [45,62]))),[]),(zi 19 (zk 80 [((.t 12),(.agg [.id,.id,(.sl 3)])),zI 18]),[]),(zv 20 (.bin .add .no (.t 19) (.c (.str [32,45,62,32]))),[]),zp (zv 21 (zd 1 2)),(zv 22 (zg 1 21),[10]),zp (zv 23 (.iad 3 (.t 22) (zc 1))),(zv 24 (zl 3 23),[10]),(zi 25 (zk 56 [((.t 24),(.agg [.id,.id,(.sl 3)]))]),[]),zp (zv 26 (.bin .add .no (.t 20) (.t 25))),zp (zm 2 26)]
def qbbw:IC:=zr [zi 3 (.bld 91 5)]
def q1d:IC:=zr [zv 27 (zl 3 1),zi 28 (zk 40 [((.t 27),(.agg [.id,.id,(.sl 3)]))]),zi 29 (zk 82 [zI 28]),zi 30 (zk 81 [((.t 3),(.agg [.id,(.sl 1)])),zI 29])]
def q0h:IC:=zr [zv 31 (zd 1 2),zv 32 (zg 1 31),zv 33 (.len false (.t 32)),zv 34 (.mov (zc 0))]
def q7e:IC:=zr [zv 35 (.bin .lss .no (.t 34) (.t 33))]
def q2t:IC:=zr [zv 36 (.iad 3 (.t 32) (.t 34)),zv 37 (zl 3 36),zi 5 (.alo [(.str []),(.int .i64 0),.nils]),zn (.st 3 (.agg [.id,.id,(.sl 3)]) (.t 5) (.t 37))]
def qbbr:IC:=zr [zv 38 (zl 3 5),zv 39 (zd 5 2),zv 40 (zg 1 39),zv 41 (.len false (.t 40)),zv 42 (.bin .gtr .no (.t 41) (zc 0)),zi 43 (zk 80 [((.t 38),(.agg [.id,.id,(.sl 3)])),zI 42]),zv 44 (.bin .add .no (.c (.str [32])) (.t 43)),zi 45 (zk 81 [((.t 3),(.agg [.id,(.sl 1)])),zI 44])]
def qye:IC:=zr [zv 46 (.bin .add .no (.t 34) (zc 1)),zm 34 46]
def q9v:IC:=(.seq q7e (.seq (.cond (.t 35) .skip (.exit 0)) (.seq (.block 1 (.seq q2t qbbr)) qye)))
def qze:IC:=zr [zi 47 (zk 83 [((.t 3),(.agg [.id,(.sl 1)]))]),zm 2 47]
def k0bm:IC:=(.seq q6p (.seq (.seq q1u (.cond (.t 8) (.seq qbbd .ret) .skip)) (.seq qbbw (.seq q1d (.seq (.seq q0h (.block 0 (.loop q9v))) (.seq qze .ret))))))
@[go_sem] def s0bm:List (RV×Co):=[(.t 2,.id)]
theorem c0bm:cFun Try.prog 56 = some (48,k0bm,s0bm):=by kernel_rfl

def qbe6:IC:=zr [zv 2 zf]
def qbhj:IC:=zr [zm 5 0,zi 6 (zk 73 [zI 5,((.c (.str [33])),.id)]),zv 7 (.un .not (.t 6))]
def qbe3:IC:=zr [zv 2 zf]
def qbcs:IC:=zr [zm 9 0,zv 10 (.sls (.t 9) (some (zc 1)) none),zi 11 (zk 93 [zI 10]),zm 8 11,zv 12 (zx 8 0),zv 13 (zx 8 1),zm 3 12,zm 4 13]
def qbfq:IC:=.drw [zp (zm 14 4),zp (zv 15 (zq (.t 14) (zc 0))),zp (zm 16 15),zp (zw 16 true 17 (zo 3)),(zj 16 true 18 (zk 94 [zI 17]),[]),zp (zw 16 true 19 (zo 0)),zp (zw 16 true 20 (.sls (.t 19) (some (zc 1)) none)),zp (zw 16 true 21 (zq (.t 18) (.t 20))),zp (zv 22 (.pick (.t 16) (.t 21) (.c (.bool false)))),zp (zm 2 22)]
def k0n:IC:=(.seq qbe6 (.seq (.seq qbhj (.cond (.t 7) (.seq qbe3 .ret) .skip)) (.seq qbcs (.seq qbfq .ret))))
@[go_sem] def s0n:List (RV×Co):=[(.t 2,.id)]
theorem c0n:cFun Try.prog 65 = some (23,k0n,s0n):=by kernel_rfl

def q8n:IC:=zr [zv 2 zf]
def q18:IC:=zr [zm 3 0,zv 4 (.bin .neq .no (.t 3) (.c (.str []))),zm 5 4,zw 5 true 6 (zo 0),zw 5 true 7 (.idx (.t 6) (zc 0)),zj 5 true 8 (zk 95 [zI 7]),zv 9 (.pick (.t 5) (.t 8) (.c (.bool false))),zm 10 9,zw 10 true 11 (zo 0),zj 10 true 12 (zk 96 [zI 11]),zv 13 (.pick (.t 10) (.t 12) (.c (.bool false))),zm 2 13]
def k0bd:IC:=(.seq q8n (.seq q18 .ret))
@[go_sem] def s0bd:List (RV×Co):=[(.t 2,.id)]
theorem c0bd:cFun Try.prog 66 = some (14,k0bd,s0bd):=by kernel_rfl

def qbfb:IC:=zr [zv 2 zf]
def qbco:IC:=zr [zm 5 0,zv 6 (zq (.t 5) (.c (.str []))),zm 7 6,zw 7 false 8 (zo 0),zw 7 false 9 (.idx (.t 8) (zc 0)),zw 7 false 10 (.bin .neq .no (.t 9) (.c (.int .u8 33))),zv 11 (.pick (.t 7) (.c (.bool true)) (.t 10))]
def qbcp:IC:=zr [zv 2 zf]
def qbeh:IC:=zr [zm 13 0,zv 14 (.sls (.t 13) (some (zc 1)) none),zi 15 (zk 97 [zI 14]),zm 12 15,zv 16 (zx 12 0),zv 17 (zx 12 1),zm 3 16,zm 4 17]
def qbf3:IC:=.drw [zp (zm 18 4),zp (zv 19 (zq (.t 18) (zc 0))),zp (zm 20 19),zp (zw 20 true 21 (zo 3)),(zj 20 true 22 (zk 78 [zI 21]),[]),zp (zw 20 true 23 (zo 0)),zp (zw 20 true 24 (.sls (.t 23) (some (zc 1)) none)),zp (zw 20 true 25 (zq (.t 22) (.t 24))),zp (zv 26 (.pick (.t 20) (.t 25) (.c (.bool false)))),zp (zm 2 26)]
def k0o:IC:=(.seq qbfb (.seq (.seq qbco (.cond (.t 11) (.seq qbcp .ret) .skip)) (.seq qbeh (.seq qbf3 .ret))))
@[go_sem] def s0o:List (RV×Co):=[(.t 2,.id)]
theorem c0o:cFun Try.prog 67 = some (27,k0o,s0o):=by kernel_rfl

def q7l:IC:=zr [zv 2 zf]
def q3d:IC:=zr [zm 3 0,zv 4 (.bin .neq .no (.t 3) (.c (.str []))),zm 5 4,zw 5 true 6 (zo 0),zw 5 true 7 (.idx (.t 6) (zc 0)),zj 5 true 8 (zk 98 [zI 7]),zv 9 (.pick (.t 5) (.t 8) (.c (.bool false))),zm 10 9,zw 10 true 11 (zo 0),zj 10 true 12 (zk 99 [zI 11]),zv 13 (.pick (.t 10) (.t 12) (.c (.bool false))),zm 2 13]
def k0be:IC:=(.seq q7l (.seq q3d .ret))
@[go_sem] def s0be:List (RV×Co):=[(.t 2,.id)]
theorem c0be:cFun Try.prog 68 = some (14,k0be,s0be):=by kernel_rfl

def q5r:IC:=zr [zv 4 (.mov (zc 0))]
def q21:IC:=zr [zm 6 0,zv 7 (.len false (.t 6)),zv 8 (.mov (zc 0))]
def q44:IC:=zr [zv 9 (.bin .lss .no (.t 8) (.t 7))]
def q2o:IC:=zr [zm 10 8,zm 5 10]
def q1m:IC:=zr [zm 11 1,zm 12 0,zm 13 5,zv 14 (.iad 1 (.t 12) (.t 13)),zv 15 (zg 1 14),zv 16 (zq (.t 11) (.t 15))]
def q8k:IC:=zr [zm 17 5,zm 4 17]
def q8a:IC:=zr [zv 18 (.bin .add .no (.t 8) (zc 1)),zm 8 18]
def q4n:IC:=(.seq q44 (.seq (.cond (.t 9) .skip (.exit 0)) (.seq (.block 1 (.seq q2o (.seq q1m (.cond (.t 16) (.seq q8k .ret) .skip)))) q8a)))
def q70:IC:=zr [zv 4 (.mov (zc (-1)))]
def k0ca:IC:=(.seq q5r (.seq (.seq q21 (.block 0 (.loop q4n))) (.seq q70 .ret)))
@[go_sem] def s0ca:List (RV×Co):=[(.t 4,.id)]
theorem c0ca:cFun Try.prog 69 = some (19,k0ca,s0ca):=by kernel_rfl

def q9d:IC:=zr [zv 4 (zg 1 1),zv 5 (.len false (.t 4)),zv 6 (.bin .sub .no (.t 5) (zc 1)),zm 3 6]
def q12:IC:=zr [zm 7 3,zv 8 (.bin .geq .no (.t 7) (zc 0))]
def q3m:IC:=zr [zm 11 0,zm 12 3,zv 13 (zg 1 1),zm 14 3,zv 15 (.iad 3 (.t 13) (.t 14)),zv 16 (zl 3 15),zi 17 (.call (.t 11) [zI 12,((.t 16),(.agg [.id,.id,(.sl 3)]))]),zv 18 (.un .not (.t 17))]
def q53:IC:=zr [zm 9 3,zv 10 (.bin .sub .no (.t 9) (zc 1)),zm 3 10]
def q4k:IC:=(.seq (.seq q12 (.cond (.t 8) .skip (.exit 0))) (.seq (.block 1 (.seq q3m (.cond (.t 18) .ret .skip))) q53))
def k0ct:IC:=(.seq q9d (.block 0 (.loop q4k)))
@[go_sem] def s0ct:List (RV×Co):=[]
theorem c0ct:cFun Try.prog 70 = some (19,k0ct,s0ct):=by kernel_rfl

def qbb5:IC:=zr [zv 1 (zg 1 0),zv 2 (.nck (.t 1)),zv 3 (zd 2 1),zv 4 (zg 1 3),zv 5 (.bin .sub .no (.t 4) (zc 1)),zv 6 (.nck (.t 1)),zv 7 (zd 6 1),zn (.st 1 .id (.t 7) (.t 5))]
def k0e:IC:=qbb5
@[go_sem] def s0e:List (RV×Co):=[]
theorem c0e:cFun Try.prog 71 = some (8,k0e,s0e):=by kernel_rfl

def qbef:IC:=zr [zi 2 (.alo [(.str []),(.int .i64 0),.nils])]
def qbc2:IC:=zr [zm 6 0,zi 7 (zk 74 [zI 6,((.c (.str [40])),.id)])]
def qbf0:IC:=zr [zm 8 0,zi 9 (zk 53 [zI 8]),zi 3 (.alo [(.str []),(.int .i64 0),.nils]),zn (.st 3 (.agg [.id,.id,(.sl 3)]) (.t 3) (.t 9))]
def qbcl:IC:=zr [zm 10 0,zm 11 0,zv 12 (.nck (.t 11)),zv 13 (zd 12 2),zv 14 (zg 1 13),zm 15 14,zw 15 false 16 (zo 0),zj 15 false 17 (zk 74 [zI 16,((.c (.str [41])),.id)]),zw 15 false 18 (.un .not (.t 17)),zv 19 (.pick (.t 15) (.c (.bool true)) (.t 18)),zv 20 (.nck (.t 10)),zv 21 (zd 20 2),zn (.st 1 .id (.t 21) (.t 19))]
def qbe0:IC:=zr [zv 22 (zl 3 3),zn (.st 3 (.agg [.id,.id,(.sl 3)]) (.t 2) (.t 22))]
def qbex:IC:=zr [zm 23 0,zv 24 (.nck (.t 23)),zv 25 (zd 24 0),zv 26 (zg 1 25),zi 27 (zk 100 [zI 26,((.c (.str [32,40,41])),.id)]),zm 4 27]
def qbch:IC:=zr [zm 28 4,zv 29 (.bin .lss .no (.t 28) (zc 0))]
def qbh3:IC:=zr [zm 30 0,zv 31 (.nck (.t 30)),zv 32 (zd 31 0),zv 33 (zg 1 32),zv 34 (.len true (.t 33)),zm 4 34]
def qbgg:IC:=zr [zm 35 0,zv 36 (.nck (.t 35)),zv 37 (zd 36 0),zv 38 (zg 1 37),zm 39 4,zv 40 (.sls (.t 38) none (some (.t 39))),zi 41 (zk 101 [zI 40]),zi 5 (.alo [(.str []),(.int .i64 0),.nils]),zn (.st 3 (.agg [.id,.id,(.sl 3)]) (.t 5) (.t 41))]
def qbcf:IC:=.drw [zp (zm 42 0),zp (zm 43 0),zp (zm 44 0),zp (zv 45 (.nck (.t 44))),zp (zv 46 (zd 45 0)),zp (zv 47 (zg 1 46)),zp (zm 48 4),zp (zv 49 (.sls (.t 47) (some (.t 48)) none)),zp (zm 50 0),zp (zv 51 (.nck (.t 50))),zp (zv 52 (zd 51 2)),zp (zv 53 (zg 1 52)),zp (zm 54 53),zp (zw 54 false 55 (zo 4)),zp (zw 54 false 56 (zq (.t 55) (zc 0))),zp (zv 57 (.pick (.t 54) (.c (.bool true)) (.t 56))),zp (zv 58 (.nck (.t 42))),zp (zv 59 (zd 58 0)),(zn (.st 1 .id (.t 59) (.t 49)),[]),zp (zv 60 (.nck (.t 43))),zp (zv 61 (zd 60 2)),(zn (.st 1 .id (.t 61) (.t 57)),[])]
def q0v:IC:=zr [zv 62 (zl 3 5),zn (.st 3 (.agg [.id,.id,(.sl 3)]) (.t 2) (.t 62))]
def k0f:IC:=(.seq qbef (.seq (.seq qbc2 (.cond (.t 7) (.seq qbf0 (.seq qbcl (.seq qbe0 .ret))) .skip)) (.seq qbex (.seq (.seq qbch (.cond (.t 29) qbh3 .skip)) (.seq qbgg (.seq qbcf (.seq q0v .ret)))))))
@[go_sem] def s0f:List (RV×Co):=[(.c true 3 2,(.agg [.id,.id,(.sl 3)]))]
theorem c0f:cFun Try.prog 72 = some (63,k0f,s0f):=by kernel_rfl

def qbfh:IC:=zr [zv 4 zf]
def qbdj:IC:=zr [zm 5 0,zm 6 1,zi 7 (zk 102 [zI 5,zI 6]),zm 4 7]
def k0s:IC:=(.seq qbfh (.seq qbdj .ret))
@[go_sem] def s0s:List (RV×Co):=[(.t 4,.id)]
theorem c0s:cFun Try.prog 73 = some (8,k0s,s0s):=by kernel_rfl

def qbcn:IC:=zr [zv 4 zf]
def qbdi:IC:=zr [zm 6 0,zv 7 (.nck (.t 6)),zv 8 (zd 7 0),zv 9 (zg 1 8),zm 10 1,zi 11 (zk 73 [zI 9,zI 10]),zm 5 11]
def qbf6:IC:=zr [zm 12 5]
def qbgz:IC:=zr [zm 13 0,zm 14 0,zv 15 (.nck (.t 14)),zv 16 (zd 15 0),zv 17 (zg 1 16),zm 18 1,zv 19 (.len true (.t 18)),zv 20 (.sls (.t 17) (some (.t 19)) none),zv 21 (.nck (.t 13)),zv 22 (zd 21 0),zn (.st 1 .id (.t 22) (.t 20))]
def qbca:IC:=zr [zm 23 5,zm 4 23]
def k0i:IC:=(.seq qbcn (.seq qbdi (.seq (.seq qbf6 (.cond (.t 12) qbgz .skip)) (.seq qbca .ret))))
@[go_sem] def s0i:List (RV×Co):=[(.t 4,.id)]
theorem c0i:cFun Try.prog 74 = some (24,k0i,s0i):=by kernel_rfl

def qbe9:IC:=zr [zv 2 (.mov (.c .nils))]
def qbh0:IC:=zr [zm 3 0,zv 4 (.bin .eql .slice (.t 3) (.c .nils))]
def qbe7:IC:=zr [zv 2 (.mov (.c .nils))]
def qbg4:IC:=zr [zv 5 (.bsl 3 []),zm 6 0,zi 7 (.app 3 (.agg [(.str []),(.int .i64 0),.nils]) 48 (.sl 3) (.t 5) (.t 6)),zm 2 7]
def k0h:IC:=(.seq qbe9 (.seq (.seq qbh0 (.cond (.t 4) (.seq qbe7 .ret) .skip)) (.seq qbg4 .ret)))
@[go_sem] def s0h:List (RV×Co):=[(.t 2,(.sl 3))]
theorem c0h:cFun Try.prog 75 = some (8,k0h,s0h):=by kernel_rfl

def q2e:IC:=zr [zi 4 (.alo [(.str []),(.int .i64 0),.nils]),zv 5 (.mov (.c (.str []))),zv 6 zf]
def q33:IC:=zr [zm 13 0,zm 14 1,zi 15 (zk 103 [zI 13,zI 14]),zm 12 15,zv 16 (zx 12 0),zv 17 (zx 12 1),zv 18 (zx 12 2),zi 7 (.alo [(.str []),(.int .i64 0),.nils]),zn (.st 3 (.agg [.id,.id,(.sl 3)]) (.t 7) (.t 16)),zm 0 17,zm 8 18]
def q2v:IC:=zr [zm 19 8,zm 20 19,zw 20 true 21 (zo 0),zw 20 true 22 (.len true (.t 21)),zw 20 true 23 (.bin .gtr .no (.t 22) (zc 1)),zv 24 (.pick (.t 20) (.t 23) (.c (.bool false))),zm 25 24,zw 25 true 26 (zo 0),zw 25 true 27 (.idx (.t 26) (zc 0)),zw 25 true 28 (zq (.t 27) (.c (.int .u8 32))),zv 29 (.pick (.t 25) (.t 28) (.c (.bool false))),zm 30 29,zw 30 true 31 (zo 0),zw 30 true 32 (.idx (.t 31) (zc 1)),zw 30 true 33 (.bin .neq .no (.t 32) (.c (.int .u8 45))),zv 34 (.pick (.t 30) (.t 33) (.c (.bool false)))]
def q9p:IC:=zr [zm 36 0,zv 37 (.sls (.t 36) (some (zc 1)) none),zm 38 1,zi 39 (zk 103 [zI 37,zI 38]),zm 35 39,zv 40 (zx 35 0),zv 41 (zx 35 1),zv 42 (zx 35 2),zi 9 (.alo [(.str []),(.int .i64 0),.nils]),zn (.st 3 (.agg [.id,.id,(.sl 3)]) (.t 9) (.t 40)),zm 10 41,zm 11 42]
def q0p:IC:=.drw [zp (zv 43 (zd 7 2)),zp (zv 44 (zg 1 43)),(zi 45 (.app 3 (.agg [(.str []),(.int .i64 0),.nils]) 48 (.sl 3) (.c .nils) (.t 44)),[]),(zv 46 (zl 3 9),[2]),(zv 47 (.bsl 3 [((.t 46),(.agg [.id,.id,(.sl 3)]))]),[2]),(zi 48 (.app 3 (.agg [(.str []),(.int .i64 0),.nils]) 48 (.sl 3) (.t 45) (.t 47)),[]),zp (zv 49 (zd 7 2)),(zn (.st 1 (.sl 3) (.t 49) (.t 48)),[])]
def q1f:IC:=zr [zm 50 10,zm 0 50]
def q6n:IC:=zr [zm 51 11,zm 8 51]
def k0ch_l2:IC:=(.seq (.seq q2v (.cond (.t 34) .skip (.exit 0))) (.block 1 (.seq q9p (.seq q0p (.seq q1f q6n)))))
def q43:IC:=zr [zv 52 (zl 3 7),zm 53 0,zm 54 8,zn (.st 3 (.agg [.id,.id,(.sl 3)]) (.t 4) (.t 52)),zm 5 53,zm 6 54]
def k0ch:IC:=(.seq q2e (.seq q33 (.seq (.block 0 (.loop k0ch_l2)) (.seq q43 .ret))))
@[go_sem] def s0ch:List (RV×Co):=[(.c true 3 4,(.agg [.id,.id,(.sl 3)])),(.t 5,.id),(.t 6,.id)]
theorem c0ch:cFun Try.prog 76 = some (55,k0ch,s0ch):=by kernel_rfl

def qbbb:IC:=zr [zv 2 (.mov (.c (.str [])))]
def q7s:IC:=zr [zm 4 0,zv 5 (.bin .lss .no (.t 4) (zc 0))]
def q3n:IC:=zr [zv 2 (.mov (.c (.str [])))]
def q2f:IC:=zr [zm 6 0,zv 7 (.bin .rem .no (.t 6) (zc 26)),zv 8 (.bin .add .no (zc 97) (.t 7)),zv 9 (.cvi .u8 (.t 8)),zv 10 (.bsl 1 [zI 9]),zv 11 (.cbs (.t 10)),zm 3 11]
def q2c:IC:=zr [zm 12 0,zv 13 (.bin .geq .no (.t 12) (zc 26))]
def q79:IC:=zr [zm 14 3,zm 15 0,zv 16 (.bin .quo .no (.t 15) (zc 26)),zi 17 (zk 78 [zI 16]),zv 18 (.bin .add .no (.t 14) (.t 17)),zm 3 18]
def q40:IC:=zr [zm 19 3,zm 2 19]
def k0bj:IC:=(.seq qbbb (.seq (.seq q7s (.cond (.t 5) (.seq q3n .ret) .skip)) (.seq q2f (.seq (.seq q2c (.cond (.t 13) q79 .skip)) (.seq q40 .ret)))))
@[go_sem] def s0bj:List (RV×Co):=[(.t 2,.id)]
theorem c0bj:cFun Try.prog 77 = some (20,k0bj,s0bj):=by kernel_rfl

def q9z:IC:=zr [zv 2 (.mov (.c (.str [])))]
def q7g:IC:=zr [zm 5 0,zi 6 (zk 104 [zI 5]),zm 3 6]
def q1h:IC:=zr [zv 4 (.mov (.c (.str [])))]
def qbai:IC:=zr [zm 7 3,zv 8 (.bin .gtr .no (.t 7) (.c (.int .u64 9)))]
def q5g:IC:=zr [zm 9 3,zv 10 (.bin .rem .no (.t 9) (.c (.int .u64 10))),zv 11 (.bin .add .no (.c (.int .u64 48)) (.t 10)),zv 12 (.cvi .u8 (.t 11)),zv 13 (.bsl 1 [zI 12]),zv 14 (.cbs (.t 13)),zm 15 4,zv 16 (.bin .add .no (.t 14) (.t 15)),zm 4 16]
def qbbk:IC:=zr [zm 17 3,zv 18 (.bin .quo .no (.t 17) (.c (.int .u64 10))),zm 3 18]
def q60:IC:=(.seq (.seq qbai (.cond (.t 8) .skip (.exit 0))) (.block 1 (.seq q5g qbbk)))
def qbbc:IC:=zr [zm 19 3,zv 20 (.bin .add .no (.c (.int .u64 48)) (.t 19)),zv 21 (.cvi .u8 (.t 20)),zv 22 (.bsl 1 [zI 21]),zv 23 (.cbs (.t 22)),zm 24 4,zv 25 (.bin .add .no (.t 23) (.t 24)),zm 4 25]
def q6q:IC:=zr [zm 26 0,zv 27 (.bin .lss .no (.t 26) (zc 0))]
def qzd:IC:=zr [zm 28 4,zv 29 (.bin .add .no (.c (.str [45])) (.t 28)),zm 2 29]
def qyi:IC:=zr [zm 30 4,zm 2 30]
def k0bg:IC:=(.seq q9z (.seq q7g (.seq q1h (.seq (.block 0 (.loop q60)) (.seq qbbc (.seq (.seq q6q (.cond (.t 27) (.seq qzd .ret) .skip)) (.seq qyi .ret)))))))
@[go_sem] def s0bg:List (RV×Co):=[(.t 2,.id)]
theorem c0bg:cFun Try.prog 78 = some (31,k0bg,s0bg):=by kernel_rfl

def q9e:IC:=zr [zi 1 (.box (.t 0)),zv 2 (.mov (.c (.str [])))]
def q2n:IC:=zr [zv 3 (zd 1 2),zv 4 (zg 1 3),zv 5 (.len false (.t 4)),zv 6 (.bin .gtr .no (.t 5) (zc 0))]
def q8r:IC:=zr [zv 7 (zl 3 1),zi 8 (zk 55 [((.t 7),(.agg [.id,.id,(.sl 3)]))]),zv 9 (.bin .add .no (.c (.str [40])) (.t 8)),zv 10 (.bin .add .no (.t 9) (.c (.str [41]))),zm 2 10]
def qbba:IC:=zr [zv 11 (zl 3 1),zi 12 (zk 55 [((.t 11),(.agg [.id,.id,(.sl 3)]))]),zm 2 12]
def k0bn:IC:=(.seq q9e (.seq (.seq q2n (.cond (.t 6) (.seq q8r .ret) .skip)) (.seq qbba .ret)))
@[go_sem] def s0bn:List (RV×Co):=[(.t 2,.id)]
theorem c0bn:cFun Try.prog 79 = some (13,k0bn,s0bn):=by kernel_rfl

def q97:IC:=zr [zi 2 (.box (.t 0)),zv 4 (.mov (.c (.str [])))]
def q0t:IC:=zr [zm 5 1]
def q10:IC:=zr [zv 6 (zl 3 2),zi 7 (zk 56 [((.t 6),(.agg [.id,.id,(.sl 3)]))]),zv 8 (.bin .add .no (.c (.str [40])) (.t 7)),zv 9 (.bin .add .no (.t 8) (.c (.str [41]))),zm 4 9]
def qbbe:IC:=zr [zv 10 (zl 3 2),zi 11 (zk 56 [((.t 10),(.agg [.id,.id,(.sl 3)]))]),zm 4 11]
def k0bl:IC:=(.seq q97 (.seq (.seq q0t (.cond (.t 5) (.seq q10 .ret) .skip)) (.seq qbbe .ret)))
@[go_sem] def s0bl:List (RV×Co):=[(.t 4,.id)]
theorem c0bl:cFun Try.prog 80 = some (12,k0bl,s0bl):=by kernel_rfl

def qbbg:IC:=zr [zi 1 (.box (.t 0)),zv 2 (.mov (.c (.str [])))]
def q4s:IC:=zr [zv 4 (zd 1 0),zv 5 (zg 1 4),zv 6 (.bin .neq .no (.t 5) (.c (.str []))),zm 3 6]
def q5e:IC:=zr [zv 7 (zd 1 0),zv 8 (zg 1 7),zm 2 8]
def q1s:IC:=zr [zv 10 (zd 1 1),zv 11 (zg 1 10),zv 12 (.bin .geq .no (.t 11) (zc 0)),zm 9 12]
def q8t:IC:=zr [zv 13 (zd 1 1),zv 14 (zg 1 13),zi 15 (zk 106 [zI 14]),zm 2 15]
def q24:IC:=zr [zv 16 (zd 1 1),zv 17 (zg 1 16),zv 18 (.bin .sub .no (zc (-1)) (.t 17)),zi 19 (zk 94 [zI 18]),zv 20 (.bin .add .no (.c (.str [63])) (.t 19)),zm 2 20]
def k0bk:IC:=(.seq qbbg (.seq (.block 0 (.seq q4s (.cond (.t 3) (.seq q5e .ret) (.seq q1s (.cond (.t 9) (.seq q8t .ret) .skip))))) (.seq q24 .ret)))
@[go_sem] def s0bk:List (RV×Co):=[(.t 2,.id)]
theorem c0bk:cFun Try.prog 82 = some (21,k0bk,s0bk):=by kernel_rfl

def qbhn:IC:=zr [zv 2 (.mov (zc 0)),zv 3 (.mov (zc 0))]
def qbed:IC:=zr [zm 8 0,zv 9 (.len true (.t 8)),zv 10 (.mov (zc 0))]
def qbhf:IC:=zr [zv 11 (.bin .lss .no (.t 10) (.t 9))]
def qbgw:IC:=zr [zm 12 10,zm 4 12]
def qbgf:IC:=zr [zm 13 0,zm 14 4,zv 15 (.idx (.t 13) (.t 14)),zv 16 (.bin .lss .no (.t 15) (.c (.int .u8 48))),zm 17 16,zw 17 false 18 (zo 0),zw 17 false 19 (zo 4),zw 17 false 20 (.idx (.t 18) (.t 19)),zw 17 false 21 (.bin .gtr .no (.t 20) (.c (.int .u8 57))),zv 22 (.pick (.t 17) (.c (.bool true)) (.t 21))]
def qbf8:IC:=zr [zv 2 (.mov (zc 0)),zv 3 (.mov (zc 5))]
def qbcm:IC:=zr [zv 23 (.bin .add .no (.t 10) (zc 1)),zm 10 23]
def qbii:IC:=(.seq qbhf (.seq (.cond (.t 11) .skip (.exit 0)) (.seq (.block 1 (.seq qbgw (.seq qbgf (.cond (.t 22) (.seq qbf8 .ret) .skip)))) qbcm)))
def qbfa:IC:=zr [zm 24 0,zv 25 (zq (.t 24) (.c (.str [])))]
def q1b:IC:=zr [zv 2 (.mov (zc 0)),zv 3 (.mov (zc 5))]
def q4g:IC:=zr [zv 5 (.mov (zc 0)),zv 6 (.mov (zc 0))]
def q34:IC:=zr [zm 26 0,zm 27 6,zv 28 (.idx (.t 26) (.t 27)),zv 29 (.bin .sub .no (.t 28) (.c (.int .u8 48))),zv 30 (.cvi .i64 (.t 29)),zm 7 30]
def q6w:IC:=zr [zm 31 5,zm 32 7,zv 33 (.bin .sub .no (zc 9223372036854775807) (.t 32)),zv 34 (.bin .quo .no (.t 33) (zc 10)),zv 35 (.bin .gtr .no (.t 31) (.t 34))]
def q3h:IC:=zr [zv 2 (.mov (zc 0)),zv 3 (.mov (zc 4))]
def q3b:IC:=zr [zm 36 5,zv 37 (.bin .mul .no (zc 10) (.t 36)),zm 38 7,zv 39 (.bin .add .no (.t 37) (.t 38)),zm 5 39]
def q8d:IC:=zr [zm 40 6,zv 41 (.bin .add .no (.t 40) (zc 1)),zm 6 41]
def q04:IC:=zr [zm 42 6,zm 43 0,zv 44 (.len true (.t 43)),zv 45 (.bin .lss .no (.t 42) (.t 44))]
def q26:IC:=zr [zm 46 5,zm 2 46,zv 3 (.mov (zc 0))]
def k0u:IC:=(.seq qbhn (.scope (.seq (.seq qbed (.block 0 (.loop qbii))) (.seq (.seq qbfa (.cond (.t 25) (.seq q1b .ret) .skip)) (.seq q4g (.seq (.label 0) (.seq q34 (.seq (.seq q6w (.cond (.t 35) (.seq q3h .ret) .skip)) (.seq q3b (.seq (.seq q8d (.seq q04 (.cond (.t 45) (.goto 0) .skip))) (.seq q26 .ret)))))))))))
@[go_sem] def s0u:List (RV×Co):=[(.t 2,.id),(.t 3,.id)]
theorem c0u:cFun Try.prog 93 = some (47,k0u,s0u):=by kernel_rfl

def q2r:IC:=zr [zv 2 (.mov (.c (.str [])))]
def q8c:IC:=zr [zm 6 0,zv 7 (.cvi .u64 (.t 6)),zm 3 7]
def q66:IC:=zr [zm 8 0,zv 9 (.bin .lss .no (.t 8) (zc 0))]
def q1t:IC:=zr [zm 10 3,zv 11 (.un .neg (.t 10)),zm 3 11]
def qba1:IC:=zr [zi 4 (.alo [(.int .u8 0),(.int .u8 0),(.int .u8 0),(.int .u8 0),(.int .u8 0),(.int .u8 0),(.int .u8 0),(.int .u8 0),(.int .u8 0),(.int .u8 0),(.int .u8 0),(.int .u8 0),(.int .u8 0),(.int .u8 0),(.int .u8 0),(.int .u8 0),(.int .u8 0),(.int .u8 0),(.int .u8 0),(.int .u8 0)])]
def q1i:IC:=zr [zv 5 (.mov (zc 20))]
def q0s:IC:=zr [zm 12 5,zv 13 (.bin .sub .no (.t 12) (zc 1)),zm 5 13]
def q6r:IC:=zr [zm 14 5,zm 15 3,zv 16 (.bin .rem .no (.t 15) (.c (.int .u64 10))),zv 17 (.bin .add .no (.c (.int .u64 48)) (.t 16)),zv 18 (.cvi .u8 (.t 17)),zv 19 (.aad 1 20 (.t 4) (.t 14)),zn (.st 1 .id (.t 19) (.t 18))]
def q4c:IC:=zr [zm 20 3,zv 21 (.bin .quo .no (.t 20) (.c (.int .u64 10))),zm 3 21]
def qzm:IC:=zr [zm 22 3,zv 23 (zq (.t 22) (.c (.int .u64 0)))]
def q3t:IC:=(.block 1 (.seq q0s (.seq q6r (.seq q4c (.seq qzm (.cond (.t 23) (.exit 0) .skip))))))
def qx9:IC:=zr [zm 24 0,zv 25 (.bin .lss .no (.t 24) (zc 0))]
def qyn:IC:=zr [zm 26 5,zv 27 (.sla 20 (.t 4) (.t 26)),zv 28 (.cbs (.t 27)),zv 29 (.bin .add .no (.c (.str [45])) (.t 28)),zm 2 29]
def qv7:IC:=zr [zm 30 5,zv 31 (.sla 20 (.t 4) (.t 30)),zv 32 (.cbs (.t 31)),zm 2 32]
def k0bh:IC:=(.seq q2r (.seq q8c (.seq (.seq q66 (.cond (.t 9) q1t .skip)) (.seq qba1 (.seq q1i (.seq (.block 0 (.loop q3t)) (.seq (.seq qx9 (.cond (.t 25) (.seq qyn .ret) .skip)) (.seq qv7 .ret))))))))
@[go_sem] def s0bh:List (RV×Co):=[(.t 2,.id)]
theorem c0bh:cFun Try.prog 94 = some (33,k0bh,s0bh):=by kernel_rfl

def qbem:IC:=zr [zv 2 zf]
def qbdx:IC:=zr [zm 3 0,zv 4 (.bin .geq .no (.t 3) (.c (.int .u8 65))),zm 5 4,zw 5 true 6 (zo 0),zw 5 true 7 (.bin .leq .no (.t 6) (.c (.int .u8 90))),zv 8 (.pick (.t 5) (.t 7) (.c (.bool false))),zm 2 8]
def k0x:IC:=(.seq qbem (.seq qbdx .ret))
@[go_sem] def s0x:List (RV×Co):=[(.t 2,.id)]
theorem c0x:cFun Try.prog 95 = some (9,k0x,s0x):=by kernel_rfl

def q93:IC:=zr [zv 2 zf]
def q3i:IC:=zr [zm 5 0,zv 6 (.len true (.t 5)),zv 7 (.mov (zc 0))]
def q01:IC:=zr [zv 8 (.bin .lss .no (.t 7) (.t 6))]
def q68:IC:=zr [zm 9 7,zm 3 9]
def q9a:IC:=zr [zm 10 0,zm 11 3,zv 12 (.idx (.t 10) (.t 11)),zm 4 12]
def qbae:IC:=zr [zm 13 4,zi 14 (zk 112 [zI 13]),zv 15 (.un .not (.t 14)),zm 16 15,zw 16 true 17 (zo 4),zj 16 true 18 (zk 95 [zI 17]),zw 16 true 19 (.un .not (.t 18)),zv 20 (.pick (.t 16) (.t 19) (.c (.bool false))),zm 21 20,zw 21 true 22 (zo 4),zw 21 true 23 (.bin .lss .no (.t 22) (.c (.int .u8 48))),zw 21 true 24 (zo 23),zw 24 false 25 (zo 4),zw 24 false 26 (.bin .gtr .no (.t 25) (.c (.int .u8 57))),zw 21 true 27 (.pick (.t 24) (.c (.bool true)) (.t 26)),zv 28 (.pick (.t 21) (.t 27) (.c (.bool false))),zm 29 28,zw 29 true 30 (zo 4),zw 29 true 31 (.bin .neq .no (.t 30) (.c (.int .u8 39))),zv 32 (.pick (.t 29) (.t 31) (.c (.bool false)))]
def qbbu:IC:=zr [zv 2 zf]
def qban:IC:=zr [zv 33 (.bin .add .no (.t 7) (zc 1)),zm 7 33]
def q0u:IC:=(.seq q01 (.seq (.cond (.t 8) .skip (.exit 0)) (.seq (.block 1 (.seq q68 (.seq q9a (.seq qbae (.cond (.t 32) (.seq qbbu .ret) .skip))))) qban)))
def qxi:IC:=zr [zv 2 (.mov (.c (.bool true)))]
def k0bb:IC:=(.seq q93 (.seq (.seq q3i (.block 0 (.loop q0u))) (.seq qxi .ret)))
@[go_sem] def s0bb:List (RV×Co):=[(.t 2,.id)]
theorem c0bb:cFun Try.prog 96 = some (34,k0bb,s0bb):=by kernel_rfl

def qbdl:IC:=zr [zv 2 (.mov (zc 0)),zv 3 (.mov (zc 0))]
def qbgd:IC:=zr [zm 8 0,zv 9 (zq (.t 8) (.c (.str [])))]
def qbfy:IC:=zr [zv 2 (.mov (zc 0)),zv 3 (.mov (zc 5))]
def qbc4:IC:=zr [zv 4 (.mov (zc 0))]
def qbic:IC:=zr [zm 10 4,zm 11 0,zv 12 (.len true (.t 11)),zv 13 (.bin .lss .no (.t 10) (.t 12))]
def qbbx:IC:=zr [zm 16 0,zm 17 4,zv 18 (.idx (.t 16) (.t 17)),zv 19 (.bin .lss .no (.t 18) (.c (.int .u8 48))),zm 20 19,zw 20 false 21 (zo 0),zw 20 false 22 (zo 4),zw 20 false 23 (.idx (.t 21) (.t 22)),zw 20 false 24 (.bin .gtr .no (.t 23) (.c (.int .u8 57))),zv 25 (.pick (.t 20) (.c (.bool true)) (.t 24))]
def qbg8:IC:=zr [zv 2 (.mov (zc 0)),zv 3 (.mov (zc 5))]
def qbez:IC:=zr [zm 14 4,zv 15 (.bin .add .no (.t 14) (zc 1)),zm 4 15]
def qbfj:IC:=(.seq (.seq qbic (.cond (.t 13) .skip (.exit 0))) (.seq (.block 1 (.seq qbbx (.cond (.t 25) (.seq qbg8 .ret) .skip))) qbez))
def q1p:IC:=zr [zv 5 (.mov (zc 0))]
def q2j:IC:=zr [zv 6 (.mov (zc 0))]
def q5b:IC:=zr [zm 26 6,zm 27 0,zv 28 (.len true (.t 27)),zv 29 (.bin .lss .no (.t 26) (.t 28))]
def q05:IC:=zr [zm 32 0,zm 33 6,zv 34 (.idx (.t 32) (.t 33)),zv 35 (.bin .sub .no (.t 34) (.c (.int .u8 48))),zv 36 (.cvi .i64 (.t 35)),zm 7 36]
def q4q:IC:=zr [zm 37 5,zm 38 7,zv 39 (.bin .sub .no (zc 9223372036854775807) (.t 38)),zv 40 (.bin .quo .no (.t 39) (zc 10)),zv 41 (.bin .gtr .no (.t 37) (.t 40))]
def q5x:IC:=zr [zv 2 (.mov (zc 0)),zv 3 (.mov (zc 4))]
def q55:IC:=zr [zm 42 5,zv 43 (.bin .mul .no (zc 10) (.t 42)),zm 44 7,zv 45 (.bin .add .no (.t 43) (.t 44)),zm 5 45]
def q6l:IC:=zr [zm 30 6,zv 31 (.bin .add .no (.t 30) (zc 1)),zm 6 31]
def q9w:IC:=(.seq (.seq q5b (.cond (.t 29) .skip (.exit 2))) (.seq (.block 3 (.seq q05 (.seq (.seq q4q (.cond (.t 41) (.seq q5x .ret) .skip)) q55))) q6l))
def q4z:IC:=zr [zm 46 5,zm 2 46,zv 3 (.mov (zc 0))]
def k0t:IC:=(.seq qbdl (.seq (.seq qbgd (.cond (.t 9) (.seq qbfy .ret) .skip)) (.seq (.seq qbc4 (.block 0 (.loop qbfj))) (.seq q1p (.seq (.seq q2j (.block 2 (.loop q9w))) (.seq q4z .ret))))))
@[go_sem] def s0t:List (RV×Co):=[(.t 2,.id),(.t 3,.id)]
theorem c0t:cFun Try.prog 97 = some (47,k0t,s0t):=by kernel_rfl

def qbfr:IC:=zr [zv 2 zf]
def qbg0:IC:=zr [zm 3 0,zv 4 (.bin .geq .no (.t 3) (.c (.int .u8 65))),zm 5 4,zw 5 true 6 (zo 0),zw 5 true 7 (.bin .leq .no (.t 6) (.c (.int .u8 90))),zv 8 (.pick (.t 5) (.t 7) (.c (.bool false))),zm 2 8]
def k0y:IC:=(.seq qbfr (.seq qbg0 .ret))
@[go_sem] def s0y:List (RV×Co):=[(.t 2,.id)]
theorem c0y:cFun Try.prog 98 = some (9,k0y,s0y):=by kernel_rfl

def q9b:IC:=zr [zv 2 zf]
def q80:IC:=zr [zv 3 (.mov (zc 1))]
def q5j:IC:=zr [zm 4 3,zm 5 0,zv 6 (.len true (.t 5)),zv 7 (.bin .lss .no (.t 4) (.t 6))]
def q84:IC:=zr [zm 10 0,zm 11 3,zv 12 (.idx (.t 10) (.t 11)),zi 13 (zk 113 [zI 12]),zv 14 (.un .not (.t 13))]
def q4w:IC:=zr [zv 2 zf]
def qbav:IC:=zr [zm 8 3,zv 9 (.bin .add .no (.t 8) (zc 1)),zm 3 9]
def q0g:IC:=(.seq (.seq q5j (.cond (.t 7) .skip (.exit 0))) (.seq (.block 1 (.seq q84 (.cond (.t 14) (.seq q4w .ret) .skip))) qbav))
def q4m:IC:=zr [zv 2 (.mov (.c (.bool true)))]
def k0bc:IC:=(.seq q9b (.seq (.seq q80 (.block 0 (.loop q0g))) (.seq q4m .ret)))
@[go_sem] def s0bc:List (RV×Co):=[(.t 2,.id)]
theorem c0bc:cFun Try.prog 99 = some (15,k0bc,s0bc):=by kernel_rfl

def qbhu:IC:=zr [zi 2 (.alo [(.str []),(.int .i64 0),.nils])]
def qbds:IC:=zr [zm 6 0,zi 7 (zk 118 [zI 6]),zm 3 7]
def qbij:IC:=zr [zm 8 3,zv 9 (.bin .geq .no (.t 8) (zc 0))]
def qbh7:IC:=zr [zm 10 3,zv 11 (.bld [(.str []),(.int .i64 0),.nils] [(1,1,(.t 10))]),zn (.st 3 (.agg [.id,.id,(.sl 3)]) (.t 2) (.t 11))]
def qbh8:IC:=zr [zm 12 0,zi 13 (zk 73 [zI 12,((.c (.str [63])),.id)])]
def qbfn:IC:=zr [zm 15 0,zv 16 (.sls (.t 15) (some (zc 1)) none),zi 17 (zk 93 [zI 16]),zm 14 17,zv 18 (zx 14 0),zv 19 (zx 14 1),zm 4 18,zm 5 19]
def qbcr:IC:=zr [zm 20 5,zv 21 (zq (.t 20) (zc 0))]
def qbib:IC:=zr [zm 22 4,zv 23 (.bin .sub .no (zc (-1)) (.t 22)),zv 24 (.bld [(.str []),(.int .i64 0),.nils] [(1,1,(.t 23))]),zn (.st 3 (.agg [.id,.id,(.sl 3)]) (.t 2) (.t 24))]
def qbdz:IC:=zr [zm 25 0,zv 26 (.bld [(.str []),(.int .i64 0),.nils] [(0,1,(.t 25))]),zn (.st 3 (.agg [.id,.id,(.sl 3)]) (.t 2) (.t 26))]
def k0g:IC:=(.seq qbhu (.seq (.seq qbds (.seq qbij (.cond (.t 9) (.seq qbh7 .ret) .skip))) (.seq (.seq qbh8 (.cond (.t 13) (.seq qbfn (.seq qbcr (.cond (.t 21) (.seq qbib .ret) .skip))) .skip)) (.seq qbdz .ret))))
@[go_sem] def s0g:List (RV×Co):=[(.c true 3 2,(.agg [.id,.id,(.sl 3)]))]
theorem c0g:cFun Try.prog 101 = some (27,k0g,s0g):=by kernel_rfl

def qbdq:IC:=zr [zv 4 zf]
def qbft:IC:=zr [zm 5 0,zv 6 (.len true (.t 5)),zm 7 1,zv 8 (.len true (.t 7)),zv 9 (.bin .geq .no (.t 6) (.t 8)),zm 10 9,zw 10 true 11 (zo 0),zw 10 true 12 (zo 1),zw 10 true 13 (.len true (.t 12)),zw 10 true 14 (.sls (.t 11) none (some (.t 13))),zw 10 true 15 (zo 1),zw 10 true 16 (zq (.t 14) (.t 15)),zv 17 (.pick (.t 10) (.t 16) (.c (.bool false))),zm 4 17]
def k0r:IC:=(.seq qbdq (.seq qbft .ret))
@[go_sem] def s0r:List (RV×Co):=[(.t 4,.id)]
theorem c0r:cFun Try.prog 102 = some (18,k0r,s0r):=by kernel_rfl

def q2m:IC:=zr [zi 4 (.alo [(.str []),(.int .i64 0),.nils]),zv 5 (.mov (.c (.str []))),zv 6 zf]
def q4a:IC:=zr [zm 11 1,zv 12 (.bin .lss .no (.t 11) (zc 1)),zm 13 12,zw 13 false 14 (zo 0),zw 13 false 15 (zq (.t 14) (.c (.str []))),zv 16 (.pick (.t 13) (.c (.bool true)) (.t 15))]
def q06:IC:=zr [zv 17 (.bld [(.str []),(.int .i64 0),.nils] []),zm 18 0,zn (.st 3 (.agg [.id,.id,(.sl 3)]) (.t 4) (.t 17)),zm 5 18,zv 6 zf]
def qba8:IC:=zr [zm 19 0,zv 20 (.idx (.t 19) (zc 0)),zv 21 (.bin .neq .no (.t 20) (.c (.int .u8 40)))]
def q6o:IC:=zr [zm 22 0,zi 23 (zk 119 [zI 22]),zm 7 23]
def q2a:IC:=.drw [zp (zm 24 0),zp (zm 25 7),zp (zv 26 (.sls (.t 24) none (some (.t 25)))),(zi 27 (zk 120 [zI 26]),[]),zp (zm 28 0),zp (zm 29 7),zp (zv 30 (.sls (.t 28) (some (.t 29)) none)),zp (zm 31 7),zp (zv 32 (.bin .gtr .no (.t 31) (zc 0))),(zn (.st 3 (.agg [.id,.id,(.sl 3)]) (.t 4) (.t 27)),[]),zp (zm 5 30),zp (zm 6 32)]
def q8h:IC:=zr [zm 34 0,zv 35 (.sls (.t 34) (some (zc 1)) none),zm 36 1,zv 37 (.bin .sub .no (.t 36) (zc 1)),zi 38 (zk 54 [zI 35,zI 37]),zm 33 38,zv 39 (zx 33 0),zv 40 (zx 33 1),zv 41 (zx 33 2),zi 8 (.alo [(.str []),(.int .i64 0),.nils]),zn (.st 3 (.agg [.id,.id,(.sl 3)]) (.t 8) (.t 39)),zm 9 40,zm 10 41]
def q29:IC:=zr [zm 42 10,zv 43 (.un .not (.t 42)),zm 44 43,zw 44 false 45 (zo 9),zw 44 false 46 (zq (.t 45) (.c (.str []))),zv 47 (.pick (.t 44) (.c (.bool true)) (.t 46)),zm 48 47,zw 48 false 49 (zo 9),zw 48 false 50 (.idx (.t 49) (zc 0)),zw 48 false 51 (.bin .neq .no (.t 50) (.c (.int .u8 41))),zv 52 (.pick (.t 48) (.c (.bool true)) (.t 51))]
def q7t:IC:=zr [zv 53 (zl 3 8),zm 54 9,zn (.st 3 (.agg [.id,.id,(.sl 3)]) (.t 4) (.t 53)),zm 5 54,zv 6 zf]
def q5c:IC:=.drw [zp (zv 55 (zl 3 8)),zp (zm 56 9),zp (zv 57 (.sls (.t 56) (some (zc 1)) none)),(zn (.st 3 (.agg [.id,.id,(.sl 3)]) (.t 4) (.t 55)),[]),zp (zm 5 57),zp (zv 6 (.mov (.c (.bool true))))]
def k0cj:IC:=(.seq q2m (.seq (.seq q4a (.cond (.t 16) (.seq q06 .ret) .skip)) (.seq (.seq qba8 (.cond (.t 21) (.seq q6o (.seq q2a .ret)) .skip)) (.seq q8h (.seq (.seq q29 (.cond (.t 52) (.seq q7t .ret) .skip)) (.seq q5c .ret))))))
@[go_sem] def s0cj:List (RV×Co):=[(.c true 3 4,(.agg [.id,.id,(.sl 3)])),(.t 5,.id),(.t 6,.id)]
theorem c0cj:cFun Try.prog 103 = some (58,k0cj,s0cj):=by kernel_rfl

def q74:IC:=zr [zv 2 (.mov (.c (.int .u64 0)))]
def q6x:IC:=zr [zm 3 0,zv 4 (.bin .lss .no (.t 3) (zc 0))]
def q5a:IC:=zr [zm 5 0,zv 6 (.cvi .u64 (.t 5)),zv 7 (.un .neg (.t 6)),zm 2 7]
def q5y:IC:=zr [zm 8 0,zv 9 (.cvi .u64 (.t 8)),zm 2 9]
def k0bf:IC:=(.seq q74 (.seq (.seq q6x (.cond (.t 4) (.seq q5a .ret) .skip)) (.seq q5y .ret)))
@[go_sem] def s0bf:List (RV×Co):=[(.t 2,.id)]
theorem c0bf:cFun Try.prog 104 = some (10,k0bf,s0bf):=by kernel_rfl

def q22:IC:=zr [zv 2 (.mov (.c (.str [])))]
def q9l:IC:=zr [zm 4 0,zv 5 (.bin .lss .no (.t 4) (zc 0))]
def qbbp:IC:=zr [zv 2 (.mov (.c (.str [])))]
def q9s:IC:=zr [zm 6 0,zv 7 (.bin .rem .no (.t 6) (zc 26)),zv 8 (.bin .add .no (zc 97) (.t 7)),zv 9 (.cvi .u8 (.t 8)),zv 10 (.bsl 1 [zI 9]),zv 11 (.cbs (.t 10)),zm 3 11]
def q6g:IC:=zr [zm 12 0,zv 13 (.bin .lss .no (.t 12) (zc 26))]
def q8g:IC:=zr [zm 14 3,zm 2 14]
def q0n:IC:=zr [zm 15 3,zm 16 0,zv 17 (.bin .quo .no (.t 16) (zc 26)),zi 18 (zk 94 [zI 17]),zv 19 (.bin .add .no (.t 15) (.t 18)),zm 2 19]
def k0bi:IC:=(.seq q22 (.seq (.seq q9l (.cond (.t 5) (.seq qbbp .ret) .skip)) (.seq q9s (.seq (.seq q6g (.cond (.t 13) (.seq q8g .ret) .skip)) (.seq q0n .ret)))))
@[go_sem] def s0bi:List (RV×Co):=[(.t 2,.id)]
theorem c0bi:cFun Try.prog 106 = some (20,k0bi,s0bi):=by kernel_rfl

def qbey:IC:=zr [zv 2 zf]
def qbhe:IC:=zr [zm 3 0,zv 4 (.bin .geq .no (.t 3) (.c (.int .u8 97))),zm 5 4,zw 5 true 6 (zo 0),zw 5 true 7 (.bin .leq .no (.t 6) (.c (.int .u8 122))),zv 8 (.pick (.t 5) (.t 7) (.c (.bool false))),zm 9 8,zw 9 false 10 (zo 0),zw 9 false 11 (zq (.t 10) (.c (.int .u8 95))),zv 12 (.pick (.t 9) (.c (.bool true)) (.t 11)),zm 2 12]
def k0v:IC:=(.seq qbey (.seq qbhe .ret))
@[go_sem] def s0v:List (RV×Co):=[(.t 2,.id)]
theorem c0v:cFun Try.prog 112 = some (13,k0v,s0v):=by kernel_rfl

def qbbi:IC:=zr [zv 2 zf]
def q78:IC:=zr [zm 3 0,zi 4 (zk 123 [zI 3]),zm 5 4,zw 5 false 6 (zo 0),zj 5 false 7 (zk 98 [zI 6]),zv 8 (.pick (.t 5) (.c (.bool true)) (.t 7)),zm 9 8,zw 9 false 10 (zo 0),zj 9 false 11 (zk 124 [zI 10]),zv 12 (.pick (.t 9) (.c (.bool true)) (.t 11)),zm 13 12,zw 13 false 14 (zo 0),zw 13 false 15 (zq (.t 14) (.c (.int .u8 39))),zv 16 (.pick (.t 13) (.c (.bool true)) (.t 15)),zm 2 16]
def k0ba:IC:=(.seq qbbi (.seq q78 .ret))
@[go_sem] def s0ba:List (RV×Co):=[(.t 2,.id)]
theorem c0ba:cFun Try.prog 113 = some (17,k0ba,s0ba):=by kernel_rfl

def qbb7:IC:=zr [zv 2 (.mov (zc 0))]
def qbg3:IC:=zr [zm 6 0,zv 7 (zq (.t 6) (.c (.str []))),zm 8 7,zw 8 false 9 (zo 0),zw 8 false 10 (.idx (.t 9) (zc 0)),zw 8 false 11 (.bin .lss .no (.t 10) (.c (.int .u8 97))),zv 12 (.pick (.t 8) (.c (.bool true)) (.t 11)),zm 13 12,zw 13 false 14 (zo 0),zw 13 false 15 (.idx (.t 14) (zc 0)),zw 13 false 16 (.bin .gtr .no (.t 15) (.c (.int .u8 122))),zv 17 (.pick (.t 13) (.c (.bool true)) (.t 16))]
def qbhp:IC:=zr [zv 2 (.mov (zc (-1)))]
def qbia:IC:=zr [zm 18 0,zv 19 (.idx (.t 18) (zc 0)),zv 20 (.bin .sub .no (.t 19) (.c (.int .u8 97))),zv 21 (.cvi .i64 (.t 20)),zm 3 21]
def qbgh:IC:=zr [zm 22 0,zv 23 (.len true (.t 22)),zv 24 (.bin .gtr .no (.t 23) (zc 1))]
def qbhm:IC:=zr [zm 26 0,zv 27 (.sls (.t 26) (some (zc 1)) none),zi 28 (zk 93 [zI 27]),zm 25 28,zv 29 (zx 25 0),zv 30 (zx 25 1),zm 4 29,zm 5 30]
def qbe1:IC:=zr [zm 31 5,zv 32 (.bin .neq .no (.t 31) (zc 0)),zm 33 32,zw 33 false 34 (zo 4),zw 33 false 35 (.bin .gtr .no (.t 34) (zc 177372539170284150)),zv 36 (.pick (.t 33) (.c (.bool true)) (.t 35))]
def qben:IC:=zr [zv 2 (.mov (zc (-1)))]
def qbdn:IC:=zr [zm 37 3,zm 38 4,zv 39 (.bin .mul .no (zc 26) (.t 38)),zv 40 (.bin .add .no (.t 37) (.t 39)),zm 3 40]
def qbct:IC:=zr [zm 41 3,zv 42 (.bin .gtr .no (.t 41) (zc 4611686018427387904)),zm 43 42,zw 43 false 44 (zo 3),zj 43 false 45 (zk 106 [zI 44]),zw 43 false 46 (zo 0),zw 43 false 47 (.bin .neq .no (.t 45) (.t 46)),zv 48 (.pick (.t 43) (.c (.bool true)) (.t 47))]
def q9j:IC:=zr [zv 2 (.mov (zc (-1)))]
def q15:IC:=zr [zm 49 3,zm 2 49]
def k0j:IC:=(.seq qbb7 (.seq (.seq qbg3 (.cond (.t 17) (.seq qbhp .ret) .skip)) (.seq qbia (.seq (.seq qbgh (.cond (.t 24) (.seq qbhm (.seq (.seq qbe1 (.cond (.t 36) (.seq qben .ret) .skip)) qbdn)) .skip)) (.seq (.seq qbct (.cond (.t 48) (.seq q9j .ret) .skip)) (.seq q15 .ret))))))
@[go_sem] def s0j:List (RV×Co):=[(.t 2,.id)]
theorem c0j:cFun Try.prog 118 = some (50,k0j,s0j):=by kernel_rfl

def q87:IC:=zr [zv 2 (.mov (zc 0))]
def q6f:IC:=zr [zv 3 (.mov (zc 0))]
def q7h:IC:=zr [zm 4 3,zm 5 0,zv 6 (.len true (.t 5)),zv 7 (.bin .lss .no (.t 4) (.t 6)),zm 8 7,zw 8 true 9 (zo 0),zw 8 true 10 (zo 3),zw 8 true 11 (.idx (.t 9) (.t 10)),zw 8 true 12 (.bin .neq .no (.t 11) (.c (.int .u8 32))),zv 13 (.pick (.t 8) (.t 12) (.c (.bool false))),zm 14 13,zw 14 true 15 (zo 0),zw 14 true 16 (zo 3),zw 14 true 17 (.idx (.t 15) (.t 16)),zw 14 true 18 (.bin .neq .no (.t 17) (.c (.int .u8 40))),zv 19 (.pick (.t 14) (.t 18) (.c (.bool false))),zm 20 19,zw 20 true 21 (zo 0),zw 20 true 22 (zo 3),zw 20 true 23 (.idx (.t 21) (.t 22)),zw 20 true 24 (.bin .neq .no (.t 23) (.c (.int .u8 41))),zv 25 (.pick (.t 20) (.t 24) (.c (.bool false)))]
def q08:IC:=zr [zm 26 3,zv 27 (.bin .add .no (.t 26) (zc 1)),zm 3 27]
def q4o:IC:=(.seq (.seq q7h (.cond (.t 25) .skip (.exit 0))) (.block 1 q08))
def q5u:IC:=zr [zm 28 3,zm 2 28]
def k0cm:IC:=(.seq q87 (.seq q6f (.seq (.block 0 (.loop q4o)) (.seq q5u .ret))))
@[go_sem] def s0cm:List (RV×Co):=[(.t 2,.id)]
theorem c0cm:cFun Try.prog 119 = some (29,k0cm,s0cm):=by kernel_rfl

def q8u:IC:=zr [zi 2 (.alo [(.str []),(.int .i64 0),.nils])]
def q2i:IC:=zr [zm 6 0,zi 7 (zk 129 [zI 6]),zm 3 7]
def q1l:IC:=zr [zm 8 3,zv 9 (.bin .geq .no (.t 8) (zc 0))]
def q2g:IC:=zr [zm 10 3,zi 11 (zk 130 [zI 10]),zn (.st 3 (.agg [.id,.id,(.sl 3)]) (.t 2) (.t 11))]
def q51:IC:=zr [zm 12 0,zv 13 (.bin .neq .no (.t 12) (.c (.str []))),zm 14 13,zw 14 true 15 (zo 0),zw 14 true 16 (.idx (.t 15) (zc 0)),zw 14 true 17 (zq (.t 16) (.c (.int .u8 63))),zv 18 (.pick (.t 14) (.t 17) (.c (.bool false)))]
def q99:IC:=zr [zm 20 0,zv 21 (.sls (.t 20) (some (zc 1)) none),zi 22 (zk 97 [zI 21]),zm 19 22,zv 23 (zx 19 0),zv 24 (zx 19 1),zm 4 23,zm 5 24]
def q6k:IC:=zr [zm 25 5,zv 26 (zq (.t 25) (zc 0))]
def q8q:IC:=zr [zm 27 4,zv 28 (.bin .sub .no (zc (-1)) (.t 27)),zi 29 (zk 130 [zI 28]),zn (.st 3 (.agg [.id,.id,(.sl 3)]) (.t 2) (.t 29))]
def q8m:IC:=zr [zm 30 0,zv 31 (.bld [(.str []),(.int .i64 0),.nils] [(0,1,(.t 30))]),zn (.st 3 (.agg [.id,.id,(.sl 3)]) (.t 2) (.t 31))]
def k0co:IC:=(.seq q8u (.seq (.seq q2i (.seq q1l (.cond (.t 9) (.seq q2g .ret) .skip))) (.seq (.seq q51 (.cond (.t 18) (.seq q99 (.seq q6k (.cond (.t 26) (.seq q8q .ret) .skip))) .skip)) (.seq q8m .ret))))
@[go_sem] def s0co:List (RV×Co):=[(.c true 3 2,(.agg [.id,.id,(.sl 3)]))]
theorem c0co:cFun Try.prog 120 = some (32,k0co,s0co):=by kernel_rfl

def qbhh:IC:=zr [zv 2 zf]
def qbgn:IC:=zr [zm 3 0,zv 4 (.bin .geq .no (.t 3) (.c (.int .u8 97))),zm 5 4,zw 5 true 6 (zo 0),zw 5 true 7 (.bin .leq .no (.t 6) (.c (.int .u8 122))),zv 8 (.pick (.t 5) (.t 7) (.c (.bool false))),zm 9 8,zw 9 false 10 (zo 0),zw 9 false 11 (zq (.t 10) (.c (.int .u8 95))),zv 12 (.pick (.t 9) (.c (.bool true)) (.t 11)),zm 2 12]
def k0w:IC:=(.seq qbhh (.seq qbgn .ret))
@[go_sem] def s0w:List (RV×Co):=[(.t 2,.id)]
theorem c0w:cFun Try.prog 123 = some (13,k0w,s0w):=by kernel_rfl

def qbgq:IC:=zr [zv 2 zf]
def qbek:IC:=zr [zm 3 0,zv 4 (.bin .geq .no (.t 3) (.c (.int .u8 48))),zm 5 4,zw 5 true 6 (zo 0),zw 5 true 7 (.bin .leq .no (.t 6) (.c (.int .u8 57))),zv 8 (.pick (.t 5) (.t 7) (.c (.bool false))),zm 2 8]
def k0z:IC:=(.seq qbgq (.seq qbek .ret))
@[go_sem] def s0z:List (RV×Co):=[(.t 2,.id)]
theorem c0z:cFun Try.prog 124 = some (9,k0z,s0z):=by kernel_rfl

def q4f:IC:=zr [zv 2 (.mov (zc 0))]
def q3z:IC:=zr [zm 7 0,zv 8 (zq (.t 7) (.c (.str []))),zm 9 8,zw 9 false 10 (zo 0),zw 9 false 11 (.idx (.t 10) (zc 0)),zw 9 false 12 (.bin .lss .no (.t 11) (.c (.int .u8 97))),zv 13 (.pick (.t 9) (.c (.bool true)) (.t 12)),zm 14 13,zw 14 false 15 (zo 0),zw 14 false 16 (.idx (.t 15) (zc 0)),zw 14 false 17 (.bin .gtr .no (.t 16) (.c (.int .u8 122))),zv 18 (.pick (.t 14) (.c (.bool true)) (.t 17))]
def q65:IC:=zr [zv 2 (.mov (zc (-1)))]
def q91:IC:=zr [zv 3 (.mov (zc 0))]
def q57:IC:=zr [zm 19 0,zv 20 (.len true (.t 19)),zv 21 (.bin .gtr .no (.t 20) (zc 1))]
def qbbt:IC:=zr [zm 23 0,zv 24 (.sls (.t 23) (some (zc 1)) none),zi 25 (zk 97 [zI 24]),zm 22 25,zv 26 (zx 22 0),zv 27 (zx 22 1),zm 4 26,zm 5 27]
def qba3:IC:=zr [zm 28 5,zv 29 (.bin .neq .no (.t 28) (zc 0)),zm 30 29,zw 30 false 31 (zo 4),zw 30 false 32 (.bin .gtr .no (.t 31) (zc 177372539170284150)),zv 33 (.pick (.t 30) (.c (.bool true)) (.t 32))]
def q8e:IC:=zr [zv 2 (.mov (zc (-1)))]
def q6a:IC:=zr [zm 34 4,zm 3 34]
def qbaj:IC:=zr [zm 35 3,zv 36 (.bin .mul .no (zc 26) (.t 35)),zm 37 0,zv 38 (.idx (.t 37) (zc 0)),zv 39 (.bin .sub .no (.t 38) (.c (.int .u8 97))),zv 40 (.cvi .i64 (.t 39)),zv 41 (.bin .add .no (.t 36) (.t 40)),zm 6 41]
def qxj:IC:=zr [zm 42 6,zv 43 (.bin .gtr .no (.t 42) (zc 4611686018427387904)),zm 44 43,zw 44 false 45 (zo 6),zj 44 false 46 (zk 77 [zI 45]),zw 44 false 47 (zo 0),zw 44 false 48 (.bin .neq .no (.t 46) (.t 47)),zv 49 (.pick (.t 44) (.c (.bool true)) (.t 48))]
def qzk:IC:=zr [zv 2 (.mov (zc (-1)))]
def qy2:IC:=zr [zm 50 6,zm 2 50]
def k0cl:IC:=(.seq q4f (.seq (.seq q3z (.cond (.t 18) (.seq q65 .ret) .skip)) (.seq q91 (.seq (.seq q57 (.cond (.t 21) (.seq qbbt (.seq (.seq qba3 (.cond (.t 33) (.seq q8e .ret) .skip)) q6a)) .skip)) (.seq qbaj (.seq (.seq qxj (.cond (.t 49) (.seq qzk .ret) .skip)) (.seq qy2 .ret)))))))
@[go_sem] def s0cl:List (RV×Co):=[(.t 2,.id)]
theorem c0cl:cFun Try.prog 129 = some (51,k0cl,s0cl):=by kernel_rfl

def qbaz:IC:=zr [zi 2 (.alo [(.str []),(.int .i64 0),.nils])]
def q1e:IC:=zr [zm 3 0,zv 4 (.bld [(.str []),(.int .i64 0),.nils] [(1,1,(.t 3))]),zn (.st 3 (.agg [.id,.id,(.sl 3)]) (.t 2) (.t 4))]
def k0cn:IC:=(.seq qbaz (.seq q1e .ret))
@[go_sem] def s0cn:List (RV×Co):=[(.c true 3 2,(.agg [.id,.id,(.sl 3)]))]
theorem c0cn:cFun Try.prog 130 = some (5,k0cn,s0cn):=by kernel_rfl

end Go.Proofs.Ytlahgbhhejkgbaa
