/- A text of this proof. -/
import Derived.Test.YtlahgbhhejkgbaaKaf
import Derived.Test.YtlahgbhhejkgbaaProg
set_option linter.unusedVariables false
set_option linter.unusedSimpArgs false
/- The compiled code of the functions. -/
namespace Go.Proofs.Ytlahgbhhejkgbaa
open Go Go.V
@[reducible] def zm (d s:Nat):GI:=⟨none,some d,.v (.mov (.t s))⟩
@[reducible] def zv (d:Nat) (x:IV):GI:=⟨none,some d,.v x⟩
@[reducible] def zi (d:Nat) (i:I):GI:=⟨none,some d,i⟩
@[reducible] def zn (i:I):GI:=⟨none,none,i⟩
@[reducible] def zw (j:Nat) (b:Bool) (d:Nat) (x:IV):GI:=⟨some (j,b),some d,.v x⟩
@[reducible] def zp (g:GI):GI×List Nat:=(g,[])
@[reducible] def zN:Co:=.agg [.id,.id,.id,.id,(.sl 5)]
@[reducible] def zC:Co:=.agg [(.sl 4),.id,.id,.id,.id,.id,.id,.id]
@[reducible] def zaN:I:=.alo [(.int .i64 0),(.int .i64 0),(.int .i64 0),(.str []),.nils]
@[reducible] def zaC:I:=.alo [.nils,(.int .i64 0),(.int .i64 0),(.int .i64 0),(.str []),(.int .i64 0),(.int .i64 0),(.int .i64 0)]
@[reducible] def zaT:I:=.alo [(.int .i64 0),(.int .i64 0),(.int .i64 0),(.str [])]
@[reducible] def zZ:AV:=.agg [(.int .i64 0),(.int .i64 0),(.int .i64 0),(.str []),.nils]
@[reducible] def zc (n:Int):Opd:=.c (.int .i64 n)
@[reducible] def zf:IV:=.mov (.c (.bool false))
@[reducible] def zr (l:List GI):IC:=.reg false l
@[reducible] def zk (f:FuncId) (l:List (Opd×Co)):I:=.call (.c (.fn f [] [])) l
@[reducible] def zA (n:Nat):Opd×Co:=(.t n,zN)
@[reducible] def zI (n:Nat):Opd×Co:=(.t n,.id)
@[reducible] def zx (n k:Nat):IV:=.ext (.t n) k
@[reducible] def zl (n k:Nat):IV:=.ld true n (.t k)
@[reducible] def zg (n k:Nat):IV:=.ld false n (.t k)
@[reducible] def zd (n k:Nat):IV:=.fad (.t n) k
@[reducible] def zq (a b:Opd):IV:=.bin .eql .no a b
@[reducible] def zo (n:Nat):IV:=.mov (.t n)
@[reducible] def zj (j:Nat) (b:Bool) (d:Nat) (i:I):GI:=⟨some (j,b),some d,i⟩
def q09:IC:=zr [zi 3 (.box (.t 0)),zi 4 (.box (.t 1)),zv 6 zf]
def q2v:IC:=zr [zv 13 (zl 3 3),zv 14 (zl 3 4),zv 15 (.bsl 3 [((.t 13),(.agg [.id,.id,(.sl 3)])),((.t 14),(.agg [.id,.id,(.sl 3)]))]),zi 16 (zk 9 [((.t 15),(.sl 3))]),zv 17 (zq (.t 16) (zc 0)),zm 18 17,zw 18 false 19 (zo 2),zw 18 false 20 (.len true (.t 19)),zw 18 false 21 (.bin .gtr .no (.t 20) (zc 3000)),zv 22 (.pick (.t 18) (.c (.bool true)) (.t 21)),zm 23 22,zw 23 false 24 (zl 3 3),zj 23 false 25 (zk 11 [((.t 24),(.agg [.id,.id,(.sl 3)]))]),zw 23 false 26 (.un .not (.t 25)),zv 27 (.pick (.t 23) (.c (.bool true)) (.t 26)),zm 28 27,zw 28 false 29 (zl 3 4),zj 28 false 30 (zk 11 [((.t 29),(.agg [.id,.id,(.sl 3)]))]),zw 28 false 31 (.un .not (.t 30)),zv 32 (.pick (.t 28) (.c (.bool true)) (.t 31))]
def qz4:IC:=zr [zi 33 (zk 10 []),zm 6 33]
def q6f:IC:=zr [zv 34 (zl 3 3),zi 35 (zk 18 [((.t 34),(.agg [.id,.id,(.sl 3)]))]),zm 7 35]
def q5v:IC:=zr [zv 8 (.mov (zc 0))]
def q03:IC:=zr [zm 36 8,zm 37 7,zv 38 (.len false (.t 37)),zv 39 (.bin .lss .no (.t 36) (.t 38))]
def q58:IC:=zr [zm 42 7,zm 43 8,zv 44 (.iad 1 (.t 42) (.t 43)),zv 45 (zg 1 44),zv 46 (.bin .gtr .no (.t 45) (zc 4611686018427387904))]
def q13:IC:=zr [zi 47 (zk 10 []),zm 6 47]
def q5b:IC:=zr [zm 40 8,zv 41 (.bin .add .no (.t 40) (zc 1)),zm 8 41]
def q4n:IC:=(.seq (.seq q03 (.cond (.t 39) .skip (.exit 0))) (.seq (.block 1 (.seq q58 (.cond (.t 46) (.seq q13 .ret) .skip))) q5b))
def qu4:IC:=zr [zv 49 (zl 3 3),zi 50 (zk 31 [((.t 49),(.agg [.id,.id,(.sl 3)]))]),zi 51 (zk 29 [zI 50]),zm 48 51,zv 52 (zx 48 0),zv 53 (zx 48 1),zi 9 (.alo [(.str []),(.int .i64 0),.nils]),zn (.st 3 (.agg [.id,.id,(.sl 3)]) (.t 9) (.t 52)),zm 10 53]
def qu1:IC:=zr [zm 55 2,zi 56 (zk 29 [zI 55]),zm 54 56,zv 57 (zx 54 0),zv 58 (zx 54 1),zi 11 (.alo [(.str []),(.int .i64 0),.nils]),zn (.st 3 (.agg [.id,.id,(.sl 3)]) (.t 11) (.t 57)),zm 12 58]
def qxp:IC:=.drw [zp (zm 59 10),zp (zv 60 (zq (.t 59) (zc 0))),zp (zm 61 60),zp (zw 61 true 62 (zl 3 9)),zp (zw 61 true 63 (zl 3 3)),(zj 61 true 64 (zk 23 [((.t 62),(.agg [.id,.id,(.sl 3)])),((.t 63),(.agg [.id,.id,(.sl 3)]))]),[]),zp (zv 65 (.pick (.t 61) (.t 64) (.c (.bool false)))),zp (zm 66 65),zp (zw 66 true 67 (zo 12)),zp (zw 66 true 68 (.bin .neq .no (.t 67) (zc 0))),zp (zw 66 true 69 (zo 68)),zp (zw 69 false 70 (zl 3 11)),(zj 69 false 71 (zk 31 [((.t 70),(.agg [.id,.id,(.sl 3)]))]),[]),zp (zw 69 false 72 (zo 2)),zp (zw 69 false 73 (zq (.t 71) (.t 72))),zp (zw 66 true 74 (.pick (.t 69) (.c (.bool true)) (.t 73))),zp (zv 75 (.pick (.t 66) (.t 74) (.c (.bool false)))),zp (zm 76 75),zp (zw 76 true 77 (zl 3 3)),(zj 76 true 78 (zk 31 [((.t 77),(.agg [.id,.id,(.sl 3)]))]),[]),(zw 76 true 79 (zl 3 4),[19]),(zj 76 true 80 (zk 31 [((.t 79),(.agg [.id,.id,(.sl 3)]))]),[]),zp (zw 76 true 81 (zq (.t 78) (.t 80))),(zw 76 true 82 (zl 3 3),[19,21]),(zw 76 true 83 (zl 3 4),[19,21]),(zj 76 true 84 (zk 23 [((.t 82),(.agg [.id,.id,(.sl 3)])),((.t 83),(.agg [.id,.id,(.sl 3)]))]),[]),zp (zw 76 true 85 (.bin .eql .bool (.t 81) (.t 84))),zp (zv 86 (.pick (.t 76) (.t 85) (.c (.bool false)))),zp (zm 87 86),(zj 87 true 88 (zk 10 []),[]),zp (zv 89 (.pick (.t 87) (.t 88) (.c (.bool false)))),zp (zm 6 89)]
def k0br:IC:=(.seq q09 (.seq (.seq q2v (.cond (.t 32) (.seq qz4 .ret) .skip)) (.seq q6f (.seq (.seq q5v (.block 0 (.loop q4n))) (.seq qu4 (.seq qu1 (.seq qxp .ret)))))))
@[go_sem] def s0br:List (RV×Co):=[(.t 6,.id)]
theorem c0br:cFun Try.prog 7 = some (90,k0br,s0br):=by kernel_rfl

def q5p:IC:=zr [zv 2 (.mov (zc 0))]
def q1g:IC:=zr [zv 3 (.mov (zc 20000))]
def q1p:IC:=zr [zv 4 (.mov (zc 0))]
def q16:IC:=zr [zm 5 4,zm 6 0,zv 7 (.len false (.t 6)),zv 8 (.bin .lss .no (.t 5) (.t 7))]
def q5e:IC:=zr [zm 11 0,zm 12 4,zv 13 (.iad 3 (.t 11) (.t 12)),zv 14 (zl 3 13),zm 15 3,zi 16 (zk 37 [((.t 14),(.agg [.id,.id,(.sl 3)])),zI 15,((zc 300),.id)]),zm 3 16]
def q0s:IC:=zr [zm 9 4,zv 10 (.bin .add .no (.t 9) (zc 1)),zm 4 10]
def q2z:IC:=(.seq (.seq q16 (.cond (.t 8) .skip (.exit 0))) (.seq (.block 1 q5e) q0s))
def qzo:IC:=zr [zm 17 3,zv 18 (.bin .lss .no (.t 17) (zc 0))]
def q5d:IC:=zr [zv 2 (.mov (zc 0))]
def qu7:IC:=zr [zv 2 (.mov (zc 1))]
def k0bl:IC:=(.seq q5p (.seq q1g (.seq (.seq q1p (.block 0 (.loop q2z))) (.seq (.seq qzo (.cond (.t 18) (.seq q5d .ret) .skip)) (.seq qu7 .ret)))))
@[go_sem] def s0bl:List (RV×Co):=[(.t 2,.id)]
theorem c0bl:cFun Try.prog 9 = some (19,k0bl,s0bl):=by kernel_rfl

def q3i:IC:=zr [zv 0 zf]
def q1k:IC:=zr [zv 10 (.bld [(.str []),(.int .i64 0),.nils] []),zv 11 (.bld [(.str []),(.int .i64 0),.nils] [(1,1,(zc (-1)))]),zv 12 (.bsl 3 [((.t 11),(.agg [.id,.id,(.sl 3)]))]),zv 13 (.bld [(.str []),(.int .i64 0),.nils] [(0,1,(.c (.str [84]))),(2,1,(.t 12))]),zi 1 (.alo [(.str []),(.int .i64 0),.nils]),zi 2 (.alo [(.str []),(.int .i64 0),.nils]),zn (.st 3 (.agg [.id,.id,(.sl 3)]) (.t 1) (.t 10)),zn (.st 3 (.agg [.id,.id,(.sl 3)]) (.t 2) (.t 13))]
def q29:IC:=zr [zv 14 (zl 3 1),zv 15 (zl 3 2),zv 16 (.bsl 3 [((.t 14),(.agg [.id,.id,(.sl 3)])),((.t 15),(.agg [.id,.id,(.sl 3)]))]),zv 17 (zl 3 1),zi 18 (zk 24 [((.t 16),(.sl 3)),((.t 17),(.agg [.id,.id,(.sl 3)]))]),zi 3 (.alo [(.str []),(.int .i64 0),.nils]),zn (.st 3 (.agg [.id,.id,(.sl 3)]) (.t 3) (.t 18))]
def q07:IC:=zr [zv 20 (zl 3 3),zi 21 (zk 25 [((.t 20),(.agg [.id,.id,(.sl 3)]))]),zm 19 21,zv 22 (zx 19 0),zv 23 (zx 19 1),zi 5 (.alo [(.str []),(.int .i64 0),.nils]),zm 4 22,zn (.st 3 (.agg [.id,.id,(.sl 3)]) (.t 5) (.t 23))]
def q40:IC:=zr [zi 25 (zk 29 [((.c (.str [97,32,45,62,32,84,32,63,48])),.id)]),zm 24 25,zv 26 (zx 24 0),zv 27 (zx 24 1),zi 6 (.alo [(.str []),(.int .i64 0),.nils]),zn (.st 3 (.agg [.id,.id,(.sl 3)]) (.t 6) (.t 26)),zm 7 27]
def q2y:IC:=zr [zi 29 (zk 29 [((.c (.str [97,32,32,45,62,32,98])),.id)]),zm 28 29,zv 30 (zx 28 0),zv 31 (zx 28 1),zi 8 (.alo [(.str []),(.int .i64 0),.nils]),zn (.st 3 (.agg [.id,.id,(.sl 3)]) (.t 8) (.t 30)),zm 9 31]
def q2a:IC:=zr [zv 32 (zl 3 6),zi 33 (zk 31 [((.t 32),(.agg [.id,.id,(.sl 3)]))]),zv 34 (zq (.t 33) (.c (.str [97,32,45,62,32,84,32,63,48]))),zm 35 34,zw 35 true 36 (zo 7),zw 35 true 37 (zq (.t 36) (zc 0)),zv 38 (.pick (.t 35) (.t 37) (.c (.bool false))),zm 39 38,zw 39 true 40 (zo 9),zw 39 true 41 (zq (.t 40) (zc 5)),zv 42 (.pick (.t 39) (.t 41) (.c (.bool false))),zm 43 42,zw 43 true 44 (zo 4),zw 43 true 45 (.len false (.t 44)),zw 43 true 46 (zq (.t 45) (zc 2)),zv 47 (.pick (.t 43) (.t 46) (.c (.bool false))),zm 48 47,zw 48 true 49 (zl 3 5),zw 48 true 50 (zl 3 1),zj 48 true 51 (zk 22 [((.t 49),(.agg [.id,.id,(.sl 3)])),((.t 50),(.agg [.id,.id,(.sl 3)]))]),zv 52 (.pick (.t 48) (.t 51) (.c (.bool false))),zm 53 52,zw 53 true 54 (zl 3 3),zj 53 true 55 (zk 31 [((.t 54),(.agg [.id,.id,(.sl 3)]))]),zw 53 true 56 (zq (.t 55) (.c (.str [97,32,45,62,32,84,32,63,48,32,45,62,32,97]))),zv 57 (.pick (.t 53) (.t 56) (.c (.bool false))),zm 58 57,zw 58 true 59 (zl 3 3),zj 58 true 60 (zk 11 [((.t 59),(.agg [.id,.id,(.sl 3)]))]),zv 61 (.pick (.t 58) (.t 60) (.c (.bool false))),zm 62 61,zw 62 true 63 (.bld [(.str []),(.int .i64 0),.nils] [(0,1,(.c (.str [45,62])))]),zj 62 true 64 (zk 11 [((.t 63),(.agg [.id,.id,(.sl 3)]))]),zw 62 true 65 (.un .not (.t 64)),zv 66 (.pick (.t 62) (.t 65) (.c (.bool false))),zm 67 66,zw 67 true 68 (.bld [(.str []),(.int .i64 0),.nils] [(0,1,(.c (.str [33,51])))]),zj 67 true 69 (zk 11 [((.t 68),(.agg [.id,.id,(.sl 3)]))]),zv 70 (.pick (.t 67) (.t 69) (.c (.bool false))),zm 71 70,zw 71 true 72 (zl 3 3),zj 71 true 73 (zk 13 [((.t 72),(.agg [.id,.id,(.sl 3)]))]),zw 71 true 74 (zq (.t 73) (zc 6)),zv 75 (.pick (.t 71) (.t 74) (.c (.bool false))),zm 76 75,zw 76 true 77 (zl 3 2),zj 76 true 78 (zk 15 [((.t 77),(.agg [.id,.id,(.sl 3)]))]),zw 76 true 79 (zq (.t 78) (zc 2)),zv 80 (.pick (.t 76) (.t 79) (.c (.bool false))),zm 81 80,zw 81 true 82 (zl 3 2),zj 81 true 83 (zk 20 [((.t 82),(.agg [.id,.id,(.sl 3)])),((zc (-1)),.id)]),zv 84 (.pick (.t 81) (.t 83) (.c (.bool false))),zm 85 84,zw 85 true 86 (zl 3 2),zj 85 true 87 (zk 20 [((.t 86),(.agg [.id,.id,(.sl 3)])),((zc 0),.id)]),zw 85 true 88 (.un .not (.t 87)),zv 89 (.pick (.t 85) (.t 88) (.c (.bool false))),zm 90 89,zw 90 true 91 (zl 3 3),zj 90 true 92 (zk 18 [((.t 91),(.agg [.id,.id,(.sl 3)]))]),zw 90 true 93 (.bsl 1 [((zc 0),.id),((zc (-1)),.id)]),zj 90 true 94 (zk 17 [((.t 92),(.sl 1)),((.t 93),(.sl 1))]),zv 95 (.pick (.t 90) (.t 94) (.c (.bool false))),zm 0 95]
def k0bz:IC:=(.seq q3i (.seq q1k (.seq q29 (.seq q07 (.seq q40 (.seq q2y (.seq q2a .ret)))))))
@[go_sem] def s0bz:List (RV×Co):=[(.t 0,.id)]
theorem c0bz:cFun Try.prog 10 = some (96,k0bz,s0bz):=by kernel_rfl

def q44:IC:=zr [zi 1 (.box (.t 0)),zv 2 zf]
def q3s:IC:=zr [zi 3 (.alo [(.int .i64 0)]),zn (.st 1 .id (.t 3) (zc 0))]
def q5u:IC:=zr [zv 4 (zl 3 1),zv 5 (.mfn 39 [] [(.t 3)]),zi 6 (zk 38 [((.t 4),(.agg [.id,.id,(.sl 3)])),((zc 1),.id),zI 5]),zm 2 6]
def k0bh:IC:=(.seq q44 (.seq q3s (.seq q5u .ret)))
@[go_sem] def s0bh:List (RV×Co):=[(.t 2,.id)]
theorem c0bh:cFun Try.prog 11 = some (7,k0bh,s0bh):=by kernel_rfl

def q5l:IC:=zr [zi 1 (.box (.t 0)),zv 2 (.mov (zc 0))]
def q1u:IC:=zr [zi 3 (.alo [(.int .i64 0)]),zn (.st 1 .id (.t 3) (zc 0))]
def q3l:IC:=zr [zv 4 (zl 3 1),zv 5 (.mfn 43 [] [(.t 3)]),zi 6 (zk 38 [((.t 4),(.agg [.id,.id,(.sl 3)])),((zc 1),.id),zI 5])]
def qzc:IC:=zr [zv 7 (zg 1 3),zm 2 7]
def k0bi:IC:=(.seq q5l (.seq q1u (.seq q3l (.seq qzc .ret))))
@[go_sem] def s0bi:List (RV×Co):=[(.t 2,.id)]
theorem c0bi:cFun Try.prog 13 = some (8,k0bi,s0bi):=by kernel_rfl

def q1z:IC:=zr [zi 1 (.box (.t 0)),zv 2 (.mov (zc 0))]
def q55:IC:=zr [zi 3 (.alo [(.int .i64 0)]),zn (.st 1 .id (.t 3) (zc 0))]
def q0m:IC:=zr [zv 4 (zl 3 1),zv 5 (.mfn 44 [] [(.t 3)]),zi 6 (zk 38 [((.t 4),(.agg [.id,.id,(.sl 3)])),((zc 1),.id),zI 5])]
def qzb:IC:=zr [zv 7 (zg 1 3),zm 2 7]
def k0bj:IC:=(.seq q1z (.seq q55 (.seq q0m (.seq qzb .ret))))
@[go_sem] def s0bj:List (RV×Co):=[(.t 2,.id)]
theorem c0bj:cFun Try.prog 15 = some (8,k0bj,s0bj):=by kernel_rfl

def qy7:IC:=zr [zv 4 zf]
def q5f:IC:=zr [zm 6 0,zv 7 (.len false (.t 6)),zm 8 1,zv 9 (.len false (.t 8)),zv 10 (.bin .neq .no (.t 7) (.t 9))]
def qza:IC:=zr [zv 4 zf]
def qz2:IC:=zr [zv 5 (.mov (zc 0))]
def q4y:IC:=zr [zm 11 5,zm 12 0,zv 13 (.len false (.t 12)),zv 14 (.bin .lss .no (.t 11) (.t 13))]
def q1t:IC:=.drw [zp (zm 17 0),zp (zm 18 5),zp (zv 19 (.iad 1 (.t 17) (.t 18))),zp (zv 20 (zg 1 19)),zp (zm 21 1),zp (zm 22 5),zp (zv 23 (.iad 1 (.t 21) (.t 22))),zp (zv 24 (zg 1 23)),zp (zv 25 (.bin .neq .no (.t 20) (.t 24)))]
def q36:IC:=zr [zv 4 zf]
def q4g:IC:=zr [zm 15 5,zv 16 (.bin .add .no (.t 15) (zc 1)),zm 5 16]
def q4l:IC:=(.seq (.seq q4y (.cond (.t 14) .skip (.exit 0))) (.seq (.block 1 (.seq q1t (.cond (.t 25) (.seq q36 .ret) .skip))) q4g))
def qvn:IC:=zr [zv 4 (.mov (.c (.bool true)))]
def k0bo:IC:=(.seq qy7 (.seq (.seq q5f (.cond (.t 10) (.seq qza .ret) .skip)) (.seq (.seq qz2 (.block 0 (.loop q4l))) (.seq qvn .ret))))
@[go_sem] def s0bo:List (RV×Co):=[(.t 4,.id)]
theorem c0bo:cFun Try.prog 17 = some (26,k0bo,s0bo):=by kernel_rfl

def q0u:IC:=zr [zi 1 (.box (.t 0)),zv 2 (.mov (.c .nils))]
def q0o:IC:=zr [zi 3 (.alo [.nils])]
def q3a:IC:=zr [zv 4 (zl 3 1),zv 5 (.mfn 45 [] [(.t 3)]),zi 6 (zk 38 [((.t 4),(.agg [.id,.id,(.sl 3)])),((zc 1),.id),zI 5])]
def q3j:IC:=zr [zv 7 (zg 1 3),zm 2 7]
def k0bq:IC:=(.seq q0u (.seq q0o (.seq q3a (.seq q3j .ret))))
@[go_sem] def s0bq:List (RV×Co):=[(.t 2,(.sl 1))]
theorem c0bq:cFun Try.prog 18 = some (8,k0bq,s0bq):=by kernel_rfl

def q2r:IC:=zr [zi 2 (.box (.t 0)),zi 3 (.box (.t 1)),zv 4 zf]
def qzj:IC:=zr [zv 5 (zl 3 2),zv 6 (.mfn 49 [] [(.t 3)]),zi 7 (zk 38 [((.t 5),(.agg [.id,.id,(.sl 3)])),((zc 1),.id),zI 6]),zv 8 (.un .not (.t 7)),zm 4 8]
def k0bt:IC:=(.seq q2r (.seq qzj .ret))
@[go_sem] def s0bt:List (RV×Co):=[(.t 4,.id)]
theorem c0bt:cFun Try.prog 20 = some (9,k0bt,s0bt):=by kernel_rfl

def q9t:IC:=zr [zi 2 (.box (.t 0)),zi 3 (.box (.t 1)),zv 4 zf]
def q7r:IC:=.drw [zp (zv 6 (zl 3 2)),(zi 7 (zk 40 [((.t 6),(.agg [.id,.id,(.sl 3)]))]),[]),(zv 8 (zl 3 3),[1]),(zi 9 (zk 40 [((.t 8),(.agg [.id,.id,(.sl 3)]))]),[]),(zv 10 (.bin .neq (.cells [.str,(.int .i64),(.int .i64)]) (.t 7) (.t 9)),[])]
def qbcb:IC:=zr [zv 4 zf]
def q9m:IC:=zr [zv 11 (zd 2 2),zv 12 (zg 1 11),zv 13 (.len false (.t 12)),zv 14 (.mov (zc 0))]
def q6p:IC:=zr [zv 15 (.bin .lss .no (.t 14) (.t 13))]
def q9s:IC:=zr [zm 16 14,zm 5 16]
def q9f:IC:=.drw [zp (zv 17 (zd 2 2)),zp (zv 18 (zg 1 17)),zp (zm 19 5),zp (zv 20 (.iad 3 (.t 18) (.t 19))),zp (zv 21 (zl 3 20)),zp (zv 22 (zd 3 2)),zp (zv 23 (zg 1 22)),zp (zm 24 5),zp (zv 25 (.iad 3 (.t 23) (.t 24))),zp (zv 26 (zl 3 25)),(zi 27 (zk 22 [((.t 21),(.agg [.id,.id,(.sl 3)])),((.t 26),(.agg [.id,.id,(.sl 3)]))]),[]),zp (zv 28 (.un .not (.t 27)))]
def q8i:IC:=zr [zv 4 zf]
def qbc2:IC:=zr [zv 29 (.bin .add .no (.t 14) (zc 1)),zm 14 29]
def qbac:IC:=(.seq q6p (.seq (.cond (.t 15) .skip (.exit 0)) (.seq (.block 1 (.seq q9s (.seq q9f (.cond (.t 28) (.seq q8i .ret) .skip)))) qbc2)))
def q43:IC:=zr [zv 4 (.mov (.c (.bool true)))]
def k0k:IC:=(.seq q9t (.seq (.seq q7r (.cond (.t 10) (.seq qbcb .ret) .skip)) (.seq (.seq q9m (.block 0 (.loop qbac))) (.seq q43 .ret))))
@[go_sem] def s0k:List (RV×Co):=[(.t 4,.id)]
theorem c0k:cFun Try.prog 22 = some (30,k0k,s0k):=by kernel_rfl

def qbbw:IC:=zr [zi 2 (.box (.t 0)),zi 3 (.box (.t 1)),zv 4 zf]
def qbc4:IC:=zr [zv 6 (zd 2 0),zv 7 (zg 1 6),zv 8 (zd 3 0),zv 9 (zg 1 8),zv 10 (.bin .neq .no (.t 7) (.t 9)),zm 11 10,zw 11 false 12 (zd 2 1),zw 11 false 13 (zg 1 12),zw 11 false 14 (zd 3 1),zw 11 false 15 (zg 1 14),zw 11 false 16 (.bin .neq .no (.t 13) (.t 15)),zv 17 (.pick (.t 11) (.c (.bool true)) (.t 16)),zm 18 17,zw 18 false 19 (zd 2 2),zw 18 false 20 (zg 1 19),zw 18 false 21 (.len false (.t 20)),zw 18 false 22 (zd 3 2),zw 18 false 23 (zg 1 22),zw 18 false 24 (.len false (.t 23)),zw 18 false 25 (.bin .neq .no (.t 21) (.t 24)),zv 26 (.pick (.t 18) (.c (.bool true)) (.t 25))]
def qbb5:IC:=zr [zv 4 zf]
def qbak:IC:=zr [zv 5 (.mov (zc 0))]
def q78:IC:=zr [zm 27 5,zv 28 (zd 2 2),zv 29 (zg 1 28),zv 30 (.len false (.t 29)),zv 31 (.bin .lss .no (.t 27) (.t 30))]
def q98:IC:=.drw [zp (zv 34 (zd 2 2)),zp (zv 35 (zg 1 34)),zp (zm 36 5),zp (zv 37 (.iad 3 (.t 35) (.t 36))),zp (zv 38 (zl 3 37)),zp (zv 39 (zd 3 2)),zp (zv 40 (zg 1 39)),zp (zm 41 5),zp (zv 42 (.iad 3 (.t 40) (.t 41))),zp (zv 43 (zl 3 42)),(zi 44 (zk 23 [((.t 38),(.agg [.id,.id,(.sl 3)])),((.t 43),(.agg [.id,.id,(.sl 3)]))]),[]),zp (zv 45 (.un .not (.t 44)))]
def qbdl:IC:=zr [zv 4 zf]
def qbbq:IC:=zr [zm 32 5,zv 33 (.bin .add .no (.t 32) (zc 1)),zm 5 33]
def q8n:IC:=(.seq (.seq q78 (.cond (.t 31) .skip (.exit 0))) (.seq (.block 1 (.seq q98 (.cond (.t 45) (.seq qbdl .ret) .skip))) qbbq))
def qzq:IC:=zr [zv 4 (.mov (.c (.bool true)))]
def k0l:IC:=(.seq qbbw (.seq (.seq qbc4 (.cond (.t 26) (.seq qbb5 .ret) .skip)) (.seq (.seq qbak (.block 0 (.loop q8n))) (.seq qzq .ret))))
@[go_sem] def s0l:List (RV×Co):=[(.t 4,.id)]
theorem c0l:cFun Try.prog 23 = some (46,k0l,s0l):=by kernel_rfl

def q5x:IC:=zr [zi 3 (.box (.t 1)),zi 4 (.alo [(.str []),(.int .i64 0),.nils])]
def qzt:IC:=zr [zm 7 0,zi 8 (zk 51 [((.t 7),(.sl 3))])]
def qy6:IC:=zr [zv 11 (zl 3 6),zv 12 (zl 3 3),zv 13 (.bsl 3 [((.t 11),(.agg [.id,.id,(.sl 3)])),((.t 12),(.agg [.id,.id,(.sl 3)]))]),zv 14 (.bld [(.str []),(.int .i64 0),.nils] [(0,1,(.c (.str [45,62]))),(2,1,(.t 13))]),zn (.st 3 (.agg [.id,.id,(.sl 3)]) (.t 3) (.t 14))]
def qrb:IC:=(.block 1 qy6)
def qtm:IC:=zr [zi 6 (.alo [(.str []),(.int .i64 0),.nils]),zn (.st 3 (.agg [.id,.id,(.sl 3)]) (.t 6) (.t 10))]
def q0j:IC:=zr [zv 15 (zl 3 3),zn (.st 3 (.agg [.id,.id,(.sl 3)]) (.t 4) (.t 15))]
def k0bw:IC:=(.seq q5x (.seq (.seq qzt (.block 0 (.rng (.t 8) [9,10] qtm qrb))) (.seq q0j .ret)))
@[go_sem] def s0bw:List (RV×Co):=[(.c true 3 4,(.agg [.id,.id,(.sl 3)]))]
theorem c0bw:cFun Try.prog 24 = some (16,k0bw,s0bw):=by kernel_rfl

def q27:IC:=zr [zi 1 (.box (.t 0)),zv 2 (.mov (.c .nils)),zi 3 (.alo [(.str []),(.int .i64 0),.nils])]
def q0v:IC:=zr [zv 4 (.mov (.c .nils))]
def q12:IC:=zr [zv 5 (zd 1 0),zv 6 (zg 1 5),zv 7 (zq (.t 6) (.c (.str [45,62]))),zm 8 7,zw 8 true 9 (zd 1 2),zw 8 true 10 (zg 1 9),zw 8 true 11 (.len false (.t 10)),zw 8 true 12 (zq (.t 11) (zc 2)),zv 13 (.pick (.t 8) (.t 12) (.c (.bool false)))]
def q6c:IC:=.drw [zp (zm 14 4),zp (zv 15 (zd 1 2)),zp (zv 16 (zg 1 15)),zp (zv 17 (.iad 3 (.t 16) (zc 0))),zp (zv 18 (zl 3 17)),(zv 19 (.bsl 3 [((.t 18),(.agg [.id,.id,(.sl 3)]))]),[]),(zi 20 (.app 3 (.agg [(.str []),(.int .i64 0),.nils]) 48 (.sl 3) (.t 14) (.t 19)),[]),zp (zv 21 (zd 1 2)),(zv 22 (zg 1 21),[6]),zp (zv 23 (.iad 3 (.t 22) (zc 1))),(zv 24 (zl 3 23),[6]),zp (zm 4 20),(zn (.st 3 (.agg [.id,.id,(.sl 3)]) (.t 1) (.t 24)),[])]
def q1i:IC:=(.seq (.seq q12 (.cond (.t 13) .skip (.exit 0))) (.block 1 q6c))
def q41:IC:=.drw [zp (zm 25 4),zp (zv 26 (zl 3 1)),zp (zm 2 25),(zn (.st 3 (.agg [.id,.id,(.sl 3)]) (.t 3) (.t 26)),[])]
def k0by:IC:=(.seq q27 (.seq q0v (.seq (.block 0 (.loop q1i)) (.seq q41 .ret))))
@[go_sem] def s0by:List (RV×Co):=[(.t 2,(.sl 3)),(.c true 3 3,(.agg [.id,.id,(.sl 3)]))]
theorem c0by:cFun Try.prog 25 = some (27,k0by,s0by):=by kernel_rfl

def q3q:IC:=zr [zi 1 (.box (.t 0)),zv 2 (.mov (.c .nils)),zi 3 (.alo [(.str []),(.int .i64 0),.nils])]
def q3u:IC:=zr [zv 4 (.mov (.c .nils))]
def qz8:IC:=zr [zv 5 (zd 1 0),zv 6 (zg 1 5),zv 7 (zq (.t 6) (.c (.str [45,62]))),zm 8 7,zw 8 true 9 (zd 1 2),zw 8 true 10 (zg 1 9),zw 8 true 11 (.len false (.t 10)),zw 8 true 12 (zq (.t 11) (zc 2)),zv 13 (.pick (.t 8) (.t 12) (.c (.bool false)))]
def q1s:IC:=zr [zm 14 4,zv 15 (zd 1 2),zv 16 (zg 1 15),zv 17 (.iad 3 (.t 16) (zc 0)),zv 18 (zl 3 17),zv 19 (.bsl 3 [((.t 18),(.agg [.id,.id,(.sl 3)]))]),zi 20 (.app 3 (.agg [(.str []),(.int .i64 0),.nils]) 48 (.sl 3) (.t 14) (.t 19)),zm 4 20]
def q0i:IC:=zr [zv 21 (zd 1 2),zv 22 (zg 1 21),zv 23 (.iad 3 (.t 22) (zc 1)),zv 24 (zl 3 23),zn (.st 3 (.agg [.id,.id,(.sl 3)]) (.t 1) (.t 24))]
def q4o:IC:=(.seq (.seq qz8 (.cond (.t 13) .skip (.exit 0))) (.block 1 (.seq q1s q0i)))
def q3r:IC:=.drw [zp (zm 25 4),zp (zv 26 (zl 3 1)),zp (zm 2 25),(zn (.st 3 (.agg [.id,.id,(.sl 3)]) (.t 3) (.t 26)),[])]
def k0bx:IC:=(.seq q3q (.seq q3u (.seq (.block 0 (.loop q4o)) (.seq q3r .ret))))
@[go_sem] def s0bx:List (RV×Co):=[(.t 2,(.sl 3)),(.c true 3 3,(.agg [.id,.id,(.sl 3)]))]
theorem c0bx:cFun Try.prog 26 = some (27,k0bx,s0bx):=by kernel_rfl

def qbc1:IC:=zr [zi 2 (.alo [(.str []),(.int .i64 0),.nils]),zv 3 (.mov (zc 0))]
def q81:IC:=zr [zm 6 0,zv 7 (.bld [(.str []),(.int .i64 0),(.bool false)] [(0,1,(.t 6))]),zi 8 (.box (.t 7)),zm 4 8]
def q86:IC:=zr [zm 9 4,zi 10 (zk 53 [zI 9]),zi 5 (.alo [(.str []),(.int .i64 0),.nils]),zn (.st 3 (.agg [.id,.id,(.sl 3)]) (.t 5) (.t 10))]
def q7y:IC:=zr [zm 11 4,zv 12 (.nck (.t 11)),zv 13 (zd 12 2),zv 14 (zg 1 13),zm 15 14,zw 15 false 16 (zo 4),zw 15 false 17 (.nck (.t 16)),zw 15 false 18 (zd 17 0),zw 15 false 19 (zg 1 18),zw 15 false 20 (.bin .neq .no (.t 19) (.c (.str []))),zv 21 (.pick (.t 15) (.c (.bool true)) (.t 20)),zm 22 21,zw 22 false 23 (zl 3 5),zj 22 false 24 (zk 31 [((.t 23),(.agg [.id,.id,(.sl 3)]))]),zw 22 false 25 (zo 0),zw 22 false 26 (.bin .neq .no (.t 24) (.t 25)),zv 27 (.pick (.t 22) (.c (.bool true)) (.t 26))]
def q7u:IC:=zr [zv 28 (.bld [(.str []),(.int .i64 0),.nils] []),zn (.st 3 (.agg [.id,.id,(.sl 3)]) (.t 2) (.t 28)),zv 3 (.mov (zc 5))]
def qbaf:IC:=zr [zv 29 (zl 3 5),zn (.st 3 (.agg [.id,.id,(.sl 3)]) (.t 2) (.t 29)),zv 3 (.mov (zc 0))]
def k0b:IC:=(.seq qbc1 (.seq q81 (.seq q86 (.seq (.seq q7y (.cond (.t 27) (.seq q7u .ret) .skip)) (.seq qbaf .ret)))))
@[go_sem] def s0b:List (RV×Co):=[(.c true 3 2,(.agg [.id,.id,(.sl 3)])),(.t 3,.id)]
theorem c0b:cFun Try.prog 29 = some (30,k0b,s0b):=by kernel_rfl

def q9p:IC:=zr [zi 1 (.box (.t 0)),zv 2 (.mov (.c (.str [])))]
def q8w:IC:=zr [zv 3 (zl 3 1),zi 4 (zk 11 [((.t 3),(.agg [.id,.id,(.sl 3)]))]),zv 5 (.un .not (.t 4))]
def q9d:IC:=zr [zv 2 (.mov (.c (.str [])))]
def q8o:IC:=zr [zv 6 (zl 3 1),zi 7 (zk 56 [((.t 6),(.agg [.id,.id,(.sl 3)]))]),zm 2 7]
def k0a:IC:=(.seq q9p (.seq (.seq q8w (.cond (.t 5) (.seq q9d .ret) .skip)) (.seq q8o .ret)))
@[go_sem] def s0a:List (RV×Co):=[(.t 2,.id)]
theorem c0a:cFun Try.prog 31 = some (8,k0a,s0a):=by kernel_rfl

def q2b:IC:=zr [zi 3 (.box (.t 0)),zv 6 (.mov (zc 0))]
def q3k:IC:=zr [zm 8 1,zv 9 (.bin .sub .no (.t 8) (zc 1)),zm 1 9]
def q05:IC:=zr [zm 10 2,zv 11 (.bin .lss .no (.t 10) (zc 1))]
def qz5:IC:=zr [zv 6 (.mov (zc (-1)))]
def q0y:IC:=zr [zv 7 (.mov (zc 0))]
def q6d:IC:=zr [zm 12 7,zv 13 (zd 3 2),zv 14 (zg 1 13),zv 15 (.len false (.t 14)),zv 16 (.bin .lss .no (.t 12) (.t 15)),zm 17 16,zw 17 true 18 (zo 1),zw 17 true 19 (.bin .geq .no (.t 18) (zc 0)),zv 20 (.pick (.t 17) (.t 19) (.c (.bool false)))]
def q3t:IC:=zr [zv 23 (zd 3 2),zv 24 (zg 1 23),zm 25 7,zv 26 (.iad 3 (.t 24) (.t 25)),zv 27 (zl 3 26),zm 28 1,zm 29 2,zv 30 (.bin .sub .no (.t 29) (zc 1)),zi 31 (zk 37 [((.t 27),(.agg [.id,.id,(.sl 3)])),zI 28,zI 30]),zm 1 31]
def q0n:IC:=zr [zm 21 7,zv 22 (.bin .add .no (.t 21) (zc 1)),zm 7 22]
def q1f:IC:=(.seq (.seq q6d (.cond (.t 20) .skip (.exit 0))) (.seq (.block 1 q3t) q0n))
def qvl:IC:=zr [zm 32 1,zm 6 32]
def k0bk:IC:=(.seq q2b (.seq q3k (.seq (.seq q05 (.cond (.t 11) (.seq qz5 .ret) .skip)) (.seq (.seq q0y (.block 0 (.loop q1f))) (.seq qvl .ret)))))
@[go_sem] def s0bk:List (RV×Co):=[(.t 6,.id)]
theorem c0bk:cFun Try.prog 37 = some (33,k0bk,s0bk):=by kernel_rfl

def q7d:IC:=zr [zi 3 (.box (.t 0)),zv 6 zf]
def qbcu:IC:=zr [zm 9 2,zv 10 (zl 3 3),zm 11 1,zi 12 (.call (.t 9) [((.t 10),(.agg [.id,.id,(.sl 3)])),zI 11]),zv 13 (.un .not (.t 12))]
def q85:IC:=zr [zv 6 zf]
def q7n:IC:=zr [zv 14 (zd 3 2),zv 15 (zg 1 14),zv 16 (.len false (.t 15)),zv 17 (.mov (zc 0))]
def qbbh:IC:=zr [zv 18 (.bin .lss .no (.t 17) (.t 16))]
def q90:IC:=zr [zv 19 (.iad 3 (.t 15) (.t 17)),zv 20 (zl 3 19),zi 8 (.alo [(.str []),(.int .i64 0),.nils]),zn (.st 3 (.agg [.id,.id,(.sl 3)]) (.t 8) (.t 20))]
def q9w:IC:=zr [zv 21 (zl 3 8),zm 22 1,zv 23 (.bin .add .no (.t 22) (zc 1)),zm 24 2,zi 25 (zk 38 [((.t 21),(.agg [.id,.id,(.sl 3)])),zI 23,zI 24]),zv 26 (.un .not (.t 25))]
def qbbc:IC:=zr [zv 6 zf]
def q8p:IC:=zr [zv 27 (.bin .add .no (.t 17) (zc 1)),zm 17 27]
def q65:IC:=(.seq qbbh (.seq (.cond (.t 18) .skip (.exit 0)) (.seq (.block 1 (.seq q90 (.seq q9w (.cond (.t 26) (.seq qbbc .ret) .skip)))) q8p)))
def q37:IC:=zr [zv 6 (.mov (.c (.bool true)))]
def k0o:IC:=(.seq q7d (.seq (.seq qbcu (.cond (.t 13) (.seq q85 .ret) .skip)) (.seq (.seq q7n (.block 0 (.loop q65))) (.seq q37 .ret))))
@[go_sem] def s0o:List (RV×Co):=[(.t 6,.id)]
theorem c0o:cFun Try.prog 38 = some (28,k0o,s0o):=by kernel_rfl

def q4j:IC:=zr [zi 3 (.box (.t 0)),zv 5 zf]
def q24:IC:=zr [zv 6 (zg 1 2),zv 7 (.bin .add .no (.t 6) (zc 1)),zn (.st 1 .id (.t 2) (.t 7))]
def q1v:IC:=zr [zv 8 (zg 1 2),zv 9 (.bin .leq .no (.t 8) (zc 4096)),zm 10 9,zw 10 true 11 (zo 1),zw 10 true 12 (.bin .leq .no (.t 11) (zc 100)),zv 13 (.pick (.t 10) (.t 12) (.c (.bool false))),zm 14 13,zw 14 true 15 (zl 3 3),zj 14 true 16 (zk 40 [((.t 15),(.agg [.id,.id,(.sl 3)]))]),zj 14 true 17 (zk 41 [zI 16]),zv 18 (.pick (.t 14) (.t 17) (.c (.bool false))),zm 5 18]
def k0be:IC:=(.seq q4j (.seq q24 (.seq q1v .ret)))
@[go_sem] def s0be:List (RV×Co):=[(.t 5,.id)]
theorem c0be:cFun Try.prog 39 = some (19,k0be,s0be):=by kernel_rfl

def qbcp:IC:=zr [zi 1 (.box (.t 0)),zi 2 (.alo [(.str []),(.int .i64 0),(.int .i64 0)])]
def qbcg:IC:=zr [zv 3 (zd 1 0),zv 4 (zg 1 3),zv 5 (zd 1 1),zv 6 (zg 1 5),zv 7 (zd 1 2),zv 8 (zg 1 7),zv 9 (.len false (.t 8)),zv 10 (.bld [(.str []),(.int .i64 0),(.int .i64 0)] [(0,1,(.t 4)),(1,1,(.t 6)),(2,1,(.t 9))]),zn (.st 3 .id (.t 2) (.t 10))]
def k0j:IC:=(.seq qbcp (.seq qbcg .ret))
@[go_sem] def s0j:List (RV×Co):=[(.c true 3 2,.id)]
theorem c0j:cFun Try.prog 40 = some (11,k0j,s0j):=by kernel_rfl

def q6t:IC:=zr [zi 1 (.box (.t 0)),zv 2 zf]
def q9h:IC:=zr [zv 4 (zd 1 0),zv 5 (zg 1 4),zv 6 (zq (.t 5) (.c (.str []))),zm 3 6]
def q69:IC:=zr [zv 7 (zd 1 2),zv 8 (zg 1 7),zv 9 (zq (.t 8) (zc 0)),zm 2 9]
def q82:IC:=zr [zv 11 (zd 1 0),zv 12 (zg 1 11),zv 13 (zq (.t 12) (.c (.str [45,62]))),zm 10 13]
def q9g:IC:=zr [zv 14 (zl 3 1),zv 15 (.bld [(.str []),(.int .i64 0),(.int .i64 0)] [(0,1,(.c (.str [45,62]))),(1,1,(zc 0)),(2,1,(zc 2))]),zv 16 (.bin .eql (.cells [.str,(.int .i64),(.int .i64)]) (.t 14) (.t 15)),zm 2 16]
def qbb2:IC:=zr [zv 18 (zd 1 0),zv 19 (zg 1 18),zi 20 (zk 65 [zI 19]),zm 17 20]
def q67:IC:=zr [zv 21 (zl 3 1),zv 22 (zd 1 0),zv 23 (zg 1 22),zv 24 (.bld [(.str []),(.int .i64 0),(.int .i64 0)] [(0,1,(.t 23))]),zv 25 (.bin .eql (.cells [.str,(.int .i64),(.int .i64)]) (.t 21) (.t 24)),zm 2 25]
def q92:IC:=zr [zv 26 (zd 1 1),zv 27 (zg 1 26),zv 28 (zq (.t 27) (zc 0)),zm 29 28,zw 29 true 30 (zd 1 0),zw 29 true 31 (zg 1 30),zj 29 true 32 (zk 66 [zI 31]),zv 33 (.pick (.t 29) (.t 32) (.c (.bool false))),zm 2 33]
def k0n:IC:=(.seq q6t (.seq (.block 0 (.seq q9h (.cond (.t 3) (.seq q69 .ret) (.seq q82 (.cond (.t 10) (.seq q9g .ret) (.seq qbb2 (.cond (.t 17) (.seq q67 .ret) .skip))))))) (.seq q92 .ret)))
@[go_sem] def s0n:List (RV×Co):=[(.t 2,.id)]
theorem c0n:cFun Try.prog 41 = some (34,k0n,s0n):=by kernel_rfl

def q2o:IC:=zr [zi 3 (.box (.t 0)),zv 5 zf]
def qzd:IC:=zr [zv 6 (zg 1 2),zv 7 (.bin .add .no (.t 6) (zc 1)),zn (.st 1 .id (.t 2) (.t 7))]
def q4h:IC:=zr [zv 5 (.mov (.c (.bool true)))]
def k0bf:IC:=(.seq q2o (.seq qzd (.seq q4h .ret)))
@[go_sem] def s0bf:List (RV×Co):=[(.t 5,.id)]
theorem c0bf:cFun Try.prog 43 = some (8,k0bf,s0bf):=by kernel_rfl

def q5c:IC:=zr [zi 3 (.box (.t 0)),zv 5 zf]
def q54:IC:=zr [zv 6 (zg 1 2),zm 7 1,zv 8 (.mm true (.t 6) (.t 7)),zn (.st 1 .id (.t 2) (.t 8))]
def q0r:IC:=zr [zv 5 (.mov (.c (.bool true)))]
def k0bg:IC:=(.seq q5c (.seq q54 (.seq q0r .ret)))
@[go_sem] def s0bg:List (RV×Co):=[(.t 5,.id)]
theorem c0bg:cFun Try.prog 44 = some (9,k0bg,s0bg):=by kernel_rfl

def q1l:IC:=zr [zi 3 (.box (.t 0)),zv 5 zf]
def q0k:IC:=zr [zv 6 (zd 3 0),zv 7 (zg 1 6),zv 8 (zq (.t 7) (.c (.str []))),zm 9 8,zw 9 true 10 (zg 1 2),zw 9 true 11 (zd 3 1),zw 9 true 12 (zg 1 11),zj 9 true 13 (zk 46 [((.t 10),(.sl 1)),zI 12]),zw 9 true 14 (.un .not (.t 13)),zv 15 (.pick (.t 9) (.t 14) (.c (.bool false)))]
def q5a:IC:=zr [zv 16 (zg 1 2),zv 17 (zd 3 1),zv 18 (zg 1 17),zv 19 (.bsl 1 [zI 18]),zi 20 (.app 1 (.int .i64 0) 8 (.sl 1) (.t 16) (.t 19)),zn (.st 1 (.sl 1) (.t 2) (.t 20))]
def q2i:IC:=zr [zv 5 (.mov (.c (.bool true)))]
def k0bp:IC:=(.seq q1l (.seq (.seq q0k (.cond (.t 15) q5a .skip)) (.seq q2i .ret)))
@[go_sem] def s0bp:List (RV×Co):=[(.t 5,.id)]
theorem c0bp:cFun Try.prog 45 = some (21,k0bp,s0bp):=by kernel_rfl

def q3p:IC:=zr [zv 4 zf]
def q17:IC:=zr [zm 5 0,zm 6 1,zi 7 (zk 69 [((.t 5),(.sl 1)),zI 6]),zv 8 (.bin .geq .no (.t 7) (zc 0)),zm 4 8]
def k0bn:IC:=(.seq q3p (.seq q17 .ret))
@[go_sem] def s0bn:List (RV×Co):=[(.t 4,.id)]
theorem c0bn:cFun Try.prog 46 = some (9,k0bn,s0bn):=by kernel_rfl

def qzw:IC:=zr [zi 3 (.box (.t 0)),zv 5 zf]
def q46:IC:=zr [zv 6 (zd 3 0),zv 7 (zg 1 6),zv 8 (.bin .neq .no (.t 7) (.c (.str []))),zm 9 8,zw 9 false 10 (zd 3 1),zw 9 false 11 (zg 1 10),zw 9 false 12 (zg 1 2),zw 9 false 13 (.bin .neq .no (.t 11) (.t 12)),zv 14 (.pick (.t 9) (.c (.bool true)) (.t 13)),zm 5 14]
def k0bs:IC:=(.seq qzw (.seq q46 .ret))
@[go_sem] def s0bs:List (RV×Co):=[(.t 5,.id)]
theorem c0bs:cFun Try.prog 49 = some (15,k0bs,s0bs):=by kernel_rfl

def q11:IC:=zr [zi 1 (.box (.t 0)),zv 2 (.mov (.c .nilf))]
def q3w:IC:=zr [zv 3 (.mfn 70 [] [(.t 1)]),zm 2 3]
def k0bu:IC:=(.seq q11 (.seq q3w .ret))
@[go_sem] def s0bu:List (RV×Co):=[(.t 2,.id)]
theorem c0bu:cFun Try.prog 51 = some (4,k0bu,s0bu):=by kernel_rfl

def q62:IC:=zr [zi 1 (.box (.t 0)),zi 2 (.alo [(.str []),(.int .i64 0),.nils])]
def qbcv:IC:=zr [zv 4 (zg 1 1),zv 5 (.nck (.t 4)),zv 6 (zd 5 1),zv 7 (zg 1 6),zv 8 (.bin .add .no (.t 7) (zc 1)),zv 9 (.nck (.t 4)),zv 10 (zd 9 1),zn (.st 1 .id (.t 10) (.t 8))]
def q8y:IC:=zr [zv 11 (zg 1 1),zv 12 (.nck (.t 11)),zv 13 (zd 12 1),zv 14 (zg 1 13),zv 15 (.bin .gtr .no (.t 14) (zc 200))]
def q8v:IC:=zr [zv 16 (zg 1 1),zv 17 (.nck (.t 16)),zv 18 (zd 17 2),zn (.st 1 .id (.t 18) (.c (.bool true)))]
def q9u:IC:=.dfr [zv 19 (.mfn 71 [] [(.t 1)])] (.t 19)
def q8d:IC:=zr [zv 20 (zg 1 1),zv 21 (.nck (.t 20)),zv 22 (zd 21 2),zv 23 (zg 1 22)]
def q6u:IC:=zr [zv 24 (.bld [(.str []),(.int .i64 0),.nils] []),zn (.st 3 (.agg [.id,.id,(.sl 3)]) (.t 2) (.t 24))]
def qbbk:IC:=zr [zv 25 (zg 1 1),zi 26 (zk 72 [zI 25]),zi 3 (.alo [(.str []),(.int .i64 0),.nils]),zn (.st 3 (.agg [.id,.id,(.sl 3)]) (.t 3) (.t 26))]
def q9j:IC:=zr [zv 27 (zg 1 1),zv 28 (.nck (.t 27)),zv 29 (zd 28 2),zv 30 (zg 1 29),zv 31 (.un .not (.t 30)),zm 32 31,zw 32 true 33 (zg 1 1),zw 32 true 34 (.nck (.t 33)),zw 32 true 35 (zd 34 0),zw 32 true 36 (zg 1 35),zj 32 true 37 (zk 73 [zI 36,((.c (.str [32,45,62,32])),.id)]),zw 32 true 38 (.un .not (.t 37)),zv 39 (.pick (.t 32) (.t 38) (.c (.bool false))),zm 40 39,zw 40 true 41 (zg 1 1),zj 40 true 42 (zk 74 [zI 41,((.c (.str [32])),.id)]),zv 43 (.pick (.t 40) (.t 42) (.c (.bool false)))]
def q2q:IC:=.drw [zp (zv 44 (zd 3 2)),zp (zv 45 (zg 1 44)),(zi 46 (zk 75 [((.t 45),(.sl 3))]),[]),(zv 47 (zg 1 1),[2]),(zi 48 (zk 72 [zI 47]),[]),(zv 49 (.bsl 3 [((.t 48),(.agg [.id,.id,(.sl 3)]))]),[]),(zi 50 (.app 3 (.agg [(.str []),(.int .i64 0),.nils]) 48 (.sl 3) (.t 46) (.t 49)),[]),zp (zv 51 (zd 3 2)),(zn (.st 1 (.sl 3) (.t 51) (.t 50)),[])]
def qn6:IC:=(.seq (.seq q9j (.cond (.t 43) .skip (.exit 0))) (.block 1 q2q))
def q4m:IC:=zr [zv 52 (zg 1 1),zv 53 (.nck (.t 52)),zv 54 (zd 53 2),zv 55 (zg 1 54),zv 56 (.un .not (.t 55)),zm 57 56,zw 57 true 58 (zg 1 1),zj 57 true 59 (zk 74 [zI 58,((.c (.str [32,45,62,32])),.id)]),zv 60 (.pick (.t 57) (.t 59) (.c (.bool false)))]
def qz0:IC:=.drw [zp (zv 61 (zl 3 3)),zp (zv 62 (zg 1 1)),(zi 63 (zk 53 [zI 62]),[0]),(zv 64 (.bsl 3 [((.t 61),(.agg [.id,.id,(.sl 3)])),((.t 63),(.agg [.id,.id,(.sl 3)]))]),[]),(zv 65 (.bld [(.str []),(.int .i64 0),.nils] [(0,1,(.c (.str [45,62]))),(2,1,(.t 64))]),[]),(zn (.st 3 (.agg [.id,.id,(.sl 3)]) (.t 2) (.t 65)),[])]
def q3c:IC:=zr [zv 66 (zl 3 3),zn (.st 3 (.agg [.id,.id,(.sl 3)]) (.t 2) (.t 66))]
def k0c:IC:=(.seq q62 (.seq (.seq qbcv (.seq q8y (.cond (.t 15) q8v .skip))) (.seq q9u (.seq (.seq q8d (.cond (.t 23) (.seq q6u .ret) .skip)) (.seq qbbk (.seq (.block 0 (.loop qn6)) (.seq (.seq q4m (.cond (.t 60) (.seq qz0 .ret) .skip)) (.seq q3c .ret))))))))
@[go_sem] def s0c:List (RV×Co):=[(.c true 3 2,(.agg [.id,.id,(.sl 3)]))]
theorem c0c:cFun Try.prog 53 = some (67,k0c,s0c):=by kernel_rfl

def q06:IC:=zr [zi 1 (.box (.t 0)),zv 2 (.mov (.c (.str [])))]
def q53:IC:=zr [zv 6 (zd 1 0),zv 7 (zg 1 6),zv 8 (zq (.t 7) (.c (.str [45,62])))]
def q3b:IC:=.drw [zp (zv 9 (zd 1 2)),zp (zv 10 (zg 1 9)),zp (zv 11 (.iad 3 (.t 10) (zc 0))),zp (zv 12 (zl 3 11)),zp (zv 13 (zd 1 2)),zp (zv 14 (zg 1 13)),zp (zv 15 (.iad 3 (.t 14) (zc 0))),zp (zv 16 (zd 15 0)),zp (zv 17 (zg 1 16)),(zv 18 (zq (.t 17) (.c (.str [45,62]))),[]),(zi 19 (zk 80 [((.t 12),(.agg [.id,.id,(.sl 3)])),zI 18]),[]),(zv 20 (.bin .add .no (.t 19) (.c (.str [32,45,62,32]))),[]),zp (zv 21 (zd 1 2)),(zv 22 (zg 1 21),[10]),zp (zv 23 (.iad 3 (.t 22) (zc 1))),(zv 24 (zl 3 23),[10]),(zi 25 (zk 56 [((.t 24),(.agg [.id,.id,(.sl 3)]))]),[]),zp (zv 26 (.bin .add .no (.t 20) (.t 25))),zp (zm 2 26)]
def q02:IC:=zr [zi 3 (.bld 91 5)]
def q0q:IC:=zr [zv 27 (zl 3 1),zi 28 (zk 40 [((.t 27),(.agg [.id,.id,(.sl 3)]))]),zi 29 (zk 82 [zI 28]),zi 30 (zk 81 [((.t 3),(.agg [.id,(.sl 1)])),zI 29])]
def q4c:IC:=zr [zv 31 (zd 1 2),zv 32 (zg 1 31),zv 33 (.len false (.t 32)),zv 34 (.mov (zc 0))]
def q3h:IC:=zr [zv 35 (.bin .lss .no (.t 34) (.t 33))]
def q5j:IC:=zr [zv 36 (.iad 3 (.t 32) (.t 34)),zv 37 (zl 3 36),zi 5 (.alo [(.str []),(.int .i64 0),.nils]),zn (.st 3 (.agg [.id,.id,(.sl 3)]) (.t 5) (.t 37))]
def qy8:IC:=zr [zv 38 (zl 3 5),zv 39 (zd 5 2),zv 40 (zg 1 39),zv 41 (.len false (.t 40)),zv 42 (.bin .gtr .no (.t 41) (zc 0)),zi 43 (zk 80 [((.t 38),(.agg [.id,.id,(.sl 3)])),zI 42]),zv 44 (.bin .add .no (.c (.str [32])) (.t 43)),zi 45 (zk 81 [((.t 3),(.agg [.id,(.sl 1)])),zI 44])]
def qxr:IC:=zr [zv 46 (.bin .add .no (.t 34) (zc 1)),zm 34 46]
def q31:IC:=(.seq q3h (.seq (.cond (.t 35) .skip (.exit 0)) (.seq (.block 1 (.seq q5j qy8)) qxr)))
def quv:IC:=zr [zi 47 (zk 83 [((.t 3),(.agg [.id,(.sl 1)]))]),zm 2 47]
def k0bd:IC:=(.seq q06 (.seq (.seq q53 (.cond (.t 8) (.seq q3b .ret) .skip)) (.seq q02 (.seq q0q (.seq (.seq q4c (.block 0 (.loop q31))) (.seq quv .ret))))))
@[go_sem] def s0bd:List (RV×Co):=[(.t 2,.id)]
theorem c0bd:cFun Try.prog 56 = some (48,k0bd,s0bd):=by kernel_rfl

def q9x:IC:=zr [zv 2 zf]
def qbdm:IC:=zr [zm 5 0,zi 6 (zk 73 [zI 5,((.c (.str [33])),.id)]),zv 7 (.un .not (.t 6))]
def qba5:IC:=zr [zv 2 zf]
def qbcf:IC:=zr [zm 9 0,zv 10 (.sls (.t 9) (some (zc 1)) none),zi 11 (zk 93 [zI 10]),zm 8 11,zv 12 (zx 8 0),zv 13 (zx 8 1),zm 3 12,zm 4 13]
def qbbx:IC:=.drw [zp (zm 14 4),zp (zv 15 (zq (.t 14) (zc 0))),zp (zm 16 15),zp (zw 16 true 17 (zo 3)),(zj 16 true 18 (zk 94 [zI 17]),[]),zp (zw 16 true 19 (zo 0)),zp (zw 16 true 20 (.sls (.t 19) (some (zc 1)) none)),zp (zw 16 true 21 (zq (.t 18) (.t 20))),zp (zv 22 (.pick (.t 16) (.t 21) (.c (.bool false)))),zp (zm 2 22)]
def k0m:IC:=(.seq q9x (.seq (.seq qbdm (.cond (.t 7) (.seq qba5 .ret) .skip)) (.seq qbcf (.seq qbbx .ret))))
@[go_sem] def s0m:List (RV×Co):=[(.t 2,.id)]
theorem c0m:cFun Try.prog 65 = some (23,k0m,s0m):=by kernel_rfl

def qbbu:IC:=zr [zv 2 zf]
def q7s:IC:=zr [zm 3 0,zv 4 (.bin .neq .no (.t 3) (.c (.str []))),zm 5 4,zw 5 true 6 (zo 0),zw 5 true 7 (.idx (.t 6) (zc 0)),zj 5 true 8 (zk 95 [zI 7]),zv 9 (.pick (.t 5) (.t 8) (.c (.bool false))),zm 10 9,zw 10 true 11 (zo 0),zj 10 true 12 (zk 96 [zI 11]),zv 13 (.pick (.t 10) (.t 12) (.c (.bool false))),zm 2 13]
def k0w:IC:=(.seq qbbu (.seq q7s .ret))
@[go_sem] def s0w:List (RV×Co):=[(.t 2,.id)]
theorem c0w:cFun Try.prog 66 = some (14,k0w,s0w):=by kernel_rfl

def q3g:IC:=zr [zv 4 (.mov (zc 0))]
def q51:IC:=zr [zm 6 0,zv 7 (.len false (.t 6)),zv 8 (.mov (zc 0))]
def q1m:IC:=zr [zv 9 (.bin .lss .no (.t 8) (.t 7))]
def q42:IC:=zr [zm 10 8,zm 5 10]
def q3m:IC:=zr [zm 11 1,zm 12 0,zm 13 5,zv 14 (.iad 1 (.t 12) (.t 13)),zv 15 (zg 1 14),zv 16 (zq (.t 11) (.t 15))]
def q6a:IC:=zr [zm 17 5,zm 4 17]
def q4e:IC:=zr [zv 18 (.bin .add .no (.t 8) (zc 1)),zm 8 18]
def q0p:IC:=(.seq q1m (.seq (.cond (.t 9) .skip (.exit 0)) (.seq (.block 1 (.seq q42 (.seq q3m (.cond (.t 16) (.seq q6a .ret) .skip)))) q4e)))
def q1j:IC:=zr [zv 4 (.mov (zc (-1)))]
def k0bm:IC:=(.seq q3g (.seq (.seq q51 (.block 0 (.loop q0p))) (.seq q1j .ret)))
@[go_sem] def s0bm:List (RV×Co):=[(.t 4,.id)]
theorem c0bm:cFun Try.prog 69 = some (19,k0bm,s0bm):=by kernel_rfl

def q28:IC:=zr [zv 4 (zg 1 1),zv 5 (.len false (.t 4)),zv 6 (.bin .sub .no (.t 5) (zc 1)),zm 3 6]
def qy5:IC:=zr [zm 7 3,zv 8 (.bin .geq .no (.t 7) (zc 0))]
def q5y:IC:=zr [zm 11 0,zm 12 3,zv 13 (zg 1 1),zm 14 3,zv 15 (.iad 3 (.t 13) (.t 14)),zv 16 (zl 3 15),zi 17 (.call (.t 11) [zI 12,((.t 16),(.agg [.id,.id,(.sl 3)]))]),zv 18 (.un .not (.t 17))]
def q0g:IC:=zr [zm 9 3,zv 10 (.bin .sub .no (.t 9) (zc 1)),zm 3 10]
def q2f:IC:=(.seq (.seq qy5 (.cond (.t 8) .skip (.exit 0))) (.seq (.block 1 (.seq q5y (.cond (.t 18) .ret .skip))) q0g))
def k0bv:IC:=(.seq q28 (.block 0 (.loop q2f)))
@[go_sem] def s0bv:List (RV×Co):=[]
theorem c0bv:cFun Try.prog 70 = some (19,k0bv,s0bv):=by kernel_rfl

def qbav:IC:=zr [zv 1 (zg 1 0),zv 2 (.nck (.t 1)),zv 3 (zd 2 1),zv 4 (zg 1 3),zv 5 (.bin .sub .no (.t 4) (zc 1)),zv 6 (.nck (.t 1)),zv 7 (zd 6 1),zn (.st 1 .id (.t 7) (.t 5))]
def k0d:IC:=qbav
@[go_sem] def s0d:List (RV×Co):=[]
theorem c0d:cFun Try.prog 71 = some (8,k0d,s0d):=by kernel_rfl

def q9o:IC:=zr [zi 2 (.alo [(.str []),(.int .i64 0),.nils])]
def qbbv:IC:=zr [zm 6 0,zi 7 (zk 74 [zI 6,((.c (.str [40])),.id)])]
def qbci:IC:=zr [zm 8 0,zi 9 (zk 53 [zI 8]),zi 3 (.alo [(.str []),(.int .i64 0),.nils]),zn (.st 3 (.agg [.id,.id,(.sl 3)]) (.t 3) (.t 9))]
def qbar:IC:=zr [zm 10 0,zm 11 0,zv 12 (.nck (.t 11)),zv 13 (zd 12 2),zv 14 (zg 1 13),zm 15 14,zw 15 false 16 (zo 0),zj 15 false 17 (zk 74 [zI 16,((.c (.str [41])),.id)]),zw 15 false 18 (.un .not (.t 17)),zv 19 (.pick (.t 15) (.c (.bool true)) (.t 18)),zv 20 (.nck (.t 10)),zv 21 (zd 20 2),zn (.st 1 .id (.t 21) (.t 19))]
def qbb8:IC:=zr [zv 22 (zl 3 3),zn (.st 3 (.agg [.id,.id,(.sl 3)]) (.t 2) (.t 22))]
def q6v:IC:=zr [zm 23 0,zv 24 (.nck (.t 23)),zv 25 (zd 24 0),zv 26 (zg 1 25),zi 27 (zk 100 [zI 26,((.c (.str [32,40,41])),.id)]),zm 4 27]
def qba3:IC:=zr [zm 28 4,zv 29 (.bin .lss .no (.t 28) (zc 0))]
def qbdh:IC:=zr [zm 30 0,zv 31 (.nck (.t 30)),zv 32 (zd 31 0),zv 33 (zg 1 32),zv 34 (.len true (.t 33)),zm 4 34]
def qbc5:IC:=zr [zm 35 0,zv 36 (.nck (.t 35)),zv 37 (zd 36 0),zv 38 (zg 1 37),zm 39 4,zv 40 (.sls (.t 38) none (some (.t 39))),zi 41 (zk 101 [zI 40]),zi 5 (.alo [(.str []),(.int .i64 0),.nils]),zn (.st 3 (.agg [.id,.id,(.sl 3)]) (.t 5) (.t 41))]
def q60:IC:=.drw [zp (zm 42 0),zp (zm 43 0),zp (zm 44 0),zp (zv 45 (.nck (.t 44))),zp (zv 46 (zd 45 0)),zp (zv 47 (zg 1 46)),zp (zm 48 4),zp (zv 49 (.sls (.t 47) (some (.t 48)) none)),zp (zm 50 0),zp (zv 51 (.nck (.t 50))),zp (zv 52 (zd 51 2)),zp (zv 53 (zg 1 52)),zp (zm 54 53),zp (zw 54 false 55 (zo 4)),zp (zw 54 false 56 (zq (.t 55) (zc 0))),zp (zv 57 (.pick (.t 54) (.c (.bool true)) (.t 56))),zp (zv 58 (.nck (.t 42))),zp (zv 59 (zd 58 0)),(zn (.st 1 .id (.t 59) (.t 49)),[]),zp (zv 60 (.nck (.t 43))),zp (zv 61 (zd 60 2)),(zn (.st 1 .id (.t 61) (.t 57)),[])]
def q47:IC:=zr [zv 62 (zl 3 5),zn (.st 3 (.agg [.id,.id,(.sl 3)]) (.t 2) (.t 62))]
def k0e:IC:=(.seq q9o (.seq (.seq qbbv (.cond (.t 7) (.seq qbci (.seq qbar (.seq qbb8 .ret))) .skip)) (.seq q6v (.seq (.seq qba3 (.cond (.t 29) qbdh .skip)) (.seq qbc5 (.seq q60 (.seq q47 .ret)))))))
@[go_sem] def s0e:List (RV×Co):=[(.c true 3 2,(.agg [.id,.id,(.sl 3)]))]
theorem c0e:cFun Try.prog 72 = some (63,k0e,s0e):=by kernel_rfl

def q6m:IC:=zr [zv 4 zf]
def q7v:IC:=zr [zm 5 0,zm 6 1,zi 7 (zk 102 [zI 5,zI 6]),zm 4 7]
def k0q:IC:=(.seq q6m (.seq q7v .ret))
@[go_sem] def s0q:List (RV×Co):=[(.t 4,.id)]
theorem c0q:cFun Try.prog 73 = some (8,k0q,s0q):=by kernel_rfl

def q7o:IC:=zr [zv 4 zf]
def q66:IC:=zr [zm 6 0,zv 7 (.nck (.t 6)),zv 8 (zd 7 0),zv 9 (zg 1 8),zm 10 1,zi 11 (zk 73 [zI 9,zI 10]),zm 5 11]
def qbag:IC:=zr [zm 12 5]
def q9v:IC:=zr [zm 13 0,zm 14 0,zv 15 (.nck (.t 14)),zv 16 (zd 15 0),zv 17 (zg 1 16),zm 18 1,zv 19 (.len true (.t 18)),zv 20 (.sls (.t 17) (some (.t 19)) none),zv 21 (.nck (.t 13)),zv 22 (zd 21 0),zn (.st 1 .id (.t 22) (.t 20))]
def qba4:IC:=zr [zm 23 5,zm 4 23]
def k0h:IC:=(.seq q7o (.seq q66 (.seq (.seq qbag (.cond (.t 12) q9v .skip)) (.seq qba4 .ret))))
@[go_sem] def s0h:List (RV×Co):=[(.t 4,.id)]
theorem c0h:cFun Try.prog 74 = some (24,k0h,s0h):=by kernel_rfl

def qbbg:IC:=zr [zv 2 (.mov (.c .nils))]
def q9q:IC:=zr [zm 3 0,zv 4 (.bin .eql .slice (.t 3) (.c .nils))]
def q7i:IC:=zr [zv 2 (.mov (.c .nils))]
def q8j:IC:=zr [zv 5 (.bsl 3 []),zm 6 0,zi 7 (.app 3 (.agg [(.str []),(.int .i64 0),.nils]) 48 (.sl 3) (.t 5) (.t 6)),zm 2 7]
def k0g:IC:=(.seq qbbg (.seq (.seq q9q (.cond (.t 4) (.seq q7i .ret) .skip)) (.seq q8j .ret)))
@[go_sem] def s0g:List (RV×Co):=[(.t 2,(.sl 3))]
theorem c0g:cFun Try.prog 75 = some (8,k0g,s0g):=by kernel_rfl

def q7j:IC:=zr [zv 2 (.mov (.c (.str [])))]
def qba2:IC:=zr [zm 5 0,zi 6 (zk 104 [zI 5]),zm 3 6]
def q8m:IC:=zr [zv 4 (.mov (.c (.str [])))]
def qba1:IC:=zr [zm 7 3,zv 8 (.bin .gtr .no (.t 7) (.c (.int .u64 9)))]
def q8l:IC:=zr [zm 9 3,zv 10 (.bin .rem .no (.t 9) (.c (.int .u64 10))),zv 11 (.bin .add .no (.c (.int .u64 48)) (.t 10)),zv 12 (.cvi .u8 (.t 11)),zv 13 (.bsl 1 [zI 12]),zv 14 (.cbs (.t 13)),zm 15 4,zv 16 (.bin .add .no (.t 14) (.t 15)),zm 4 16]
def q8x:IC:=zr [zm 17 3,zv 18 (.bin .quo .no (.t 17) (.c (.int .u64 10))),zm 3 18]
def qbab:IC:=(.seq (.seq qba1 (.cond (.t 8) .skip (.exit 0))) (.block 1 (.seq q8l q8x)))
def qbau:IC:=zr [zm 19 3,zv 20 (.bin .add .no (.c (.int .u64 48)) (.t 19)),zv 21 (.cvi .u8 (.t 20)),zv 22 (.bsl 1 [zI 21]),zv 23 (.cbs (.t 22)),zm 24 4,zv 25 (.bin .add .no (.t 23) (.t 24)),zm 4 25]
def qbcz:IC:=zr [zm 26 0,zv 27 (.bin .lss .no (.t 26) (zc 0))]
def q4x:IC:=zr [zm 28 4,zv 29 (.bin .add .no (.c (.str [45])) (.t 28)),zm 2 29]
def q4t:IC:=zr [zm 30 4,zm 2 30]
def k0y:IC:=(.seq q7j (.seq qba2 (.seq q8m (.seq (.block 0 (.loop qbab)) (.seq qbau (.seq (.seq qbcz (.cond (.t 27) (.seq q4x .ret) .skip)) (.seq q4t .ret)))))))
@[go_sem] def s0y:List (RV×Co):=[(.t 2,.id)]
theorem c0y:cFun Try.prog 78 = some (31,k0y,s0y):=by kernel_rfl

def q0a:IC:=zr [zi 2 (.box (.t 0)),zv 4 (.mov (.c (.str [])))]
def q34:IC:=zr [zm 5 1]
def q2e:IC:=zr [zv 6 (zl 3 2),zi 7 (zk 56 [((.t 6),(.agg [.id,.id,(.sl 3)]))]),zv 8 (.bin .add .no (.c (.str [40])) (.t 7)),zv 9 (.bin .add .no (.t 8) (.c (.str [41]))),zm 4 9]
def q18:IC:=zr [zv 10 (zl 3 2),zi 11 (zk 56 [((.t 10),(.agg [.id,.id,(.sl 3)]))]),zm 4 11]
def k0bc:IC:=(.seq q0a (.seq (.seq q34 (.cond (.t 5) (.seq q2e .ret) .skip)) (.seq q18 .ret)))
@[go_sem] def s0bc:List (RV×Co):=[(.t 4,.id)]
theorem c0bc:cFun Try.prog 80 = some (12,k0bc,s0bc):=by kernel_rfl

def q1d:IC:=zr [zi 1 (.box (.t 0)),zv 2 (.mov (.c (.str [])))]
def q5n:IC:=zr [zv 4 (zd 1 0),zv 5 (zg 1 4),zv 6 (.bin .neq .no (.t 5) (.c (.str []))),zm 3 6]
def q5m:IC:=zr [zv 7 (zd 1 0),zv 8 (zg 1 7),zm 2 8]
def q6b:IC:=zr [zv 10 (zd 1 1),zv 11 (zg 1 10),zv 12 (.bin .geq .no (.t 11) (zc 0)),zm 9 12]
def q1q:IC:=zr [zv 13 (zd 1 1),zv 14 (zg 1 13),zi 15 (zk 106 [zI 14]),zm 2 15]
def q0z:IC:=zr [zv 16 (zd 1 1),zv 17 (zg 1 16),zv 18 (.bin .sub .no (zc (-1)) (.t 17)),zi 19 (zk 94 [zI 18]),zv 20 (.bin .add .no (.c (.str [63])) (.t 19)),zm 2 20]
def k0bb:IC:=(.seq q1d (.seq (.block 0 (.seq q5n (.cond (.t 3) (.seq q5m .ret) (.seq q6b (.cond (.t 9) (.seq q1q .ret) .skip))))) (.seq q0z .ret)))
@[go_sem] def s0bb:List (RV×Co):=[(.t 2,.id)]
theorem c0bb:cFun Try.prog 82 = some (21,k0bb,s0bb):=by kernel_rfl

def qbbm:IC:=zr [zv 2 (.mov (zc 0)),zv 3 (.mov (zc 0))]
def qbba:IC:=zr [zm 8 0,zv 9 (.len true (.t 8)),zv 10 (.mov (zc 0))]
def q97:IC:=zr [zv 11 (.bin .lss .no (.t 10) (.t 9))]
def q6w:IC:=zr [zm 12 10,zm 4 12]
def qbbo:IC:=zr [zm 13 0,zm 14 4,zv 15 (.idx (.t 13) (.t 14)),zv 16 (.bin .lss .no (.t 15) (.c (.int .u8 48))),zm 17 16,zw 17 false 18 (zo 0),zw 17 false 19 (zo 4),zw 17 false 20 (.idx (.t 18) (.t 19)),zw 17 false 21 (.bin .gtr .no (.t 20) (.c (.int .u8 57))),zv 22 (.pick (.t 17) (.c (.bool true)) (.t 21))]
def q7m:IC:=zr [zv 2 (.mov (zc 0)),zv 3 (.mov (zc 5))]
def q79:IC:=zr [zv 23 (.bin .add .no (.t 10) (zc 1)),zm 10 23]
def qbdi:IC:=(.seq q97 (.seq (.cond (.t 11) .skip (.exit 0)) (.seq (.block 1 (.seq q6w (.seq qbbo (.cond (.t 22) (.seq q7m .ret) .skip)))) q79)))
def q89:IC:=zr [zm 24 0,zv 25 (zq (.t 24) (.c (.str [])))]
def q5k:IC:=zr [zv 2 (.mov (zc 0)),zv 3 (.mov (zc 5))]
def q3y:IC:=zr [zv 5 (.mov (zc 0)),zv 6 (.mov (zc 0))]
def q0b:IC:=zr [zm 26 0,zm 27 6,zv 28 (.idx (.t 26) (.t 27)),zv 29 (.bin .sub .no (.t 28) (.c (.int .u8 48))),zv 30 (.cvi .i64 (.t 29)),zm 7 30]
def qzf:IC:=zr [zm 31 5,zm 32 7,zv 33 (.bin .sub .no (zc 9223372036854775807) (.t 32)),zv 34 (.bin .quo .no (.t 33) (zc 10)),zv 35 (.bin .gtr .no (.t 31) (.t 34))]
def q52:IC:=zr [zv 2 (.mov (zc 0)),zv 3 (.mov (zc 4))]
def q4v:IC:=zr [zm 36 5,zv 37 (.bin .mul .no (zc 10) (.t 36)),zm 38 7,zv 39 (.bin .add .no (.t 37) (.t 38)),zm 5 39]
def q01:IC:=zr [zm 40 6,zv 41 (.bin .add .no (.t 40) (zc 1)),zm 6 41]
def q2g:IC:=zr [zm 42 6,zm 43 0,zv 44 (.len true (.t 43)),zv 45 (.bin .lss .no (.t 42) (.t 44))]
def q35:IC:=zr [zm 46 5,zm 2 46,zv 3 (.mov (zc 0))]
def k0s:IC:=(.seq qbbm (.scope (.seq (.seq qbba (.block 0 (.loop qbdi))) (.seq (.seq q89 (.cond (.t 25) (.seq q5k .ret) .skip)) (.seq q3y (.seq (.label 0) (.seq q0b (.seq (.seq qzf (.cond (.t 35) (.seq q52 .ret) .skip)) (.seq q4v (.seq (.seq q01 (.seq q2g (.cond (.t 45) (.goto 0) .skip))) (.seq q35 .ret)))))))))))
@[go_sem] def s0s:List (RV×Co):=[(.t 2,.id),(.t 3,.id)]
theorem c0s:cFun Try.prog 93 = some (47,k0s,s0s):=by kernel_rfl

def qbdj:IC:=zr [zv 2 (.mov (.c (.str [])))]
def q8q:IC:=zr [zm 6 0,zv 7 (.cvi .u64 (.t 6)),zm 3 7]
def q75:IC:=zr [zm 8 0,zv 9 (.bin .lss .no (.t 8) (zc 0))]
def qbbs:IC:=zr [zm 10 3,zv 11 (.un .neg (.t 10)),zm 3 11]
def qbcn:IC:=zr [zi 4 (.alo [(.int .u8 0),(.int .u8 0),(.int .u8 0),(.int .u8 0),(.int .u8 0),(.int .u8 0),(.int .u8 0),(.int .u8 0),(.int .u8 0),(.int .u8 0),(.int .u8 0),(.int .u8 0),(.int .u8 0),(.int .u8 0),(.int .u8 0),(.int .u8 0),(.int .u8 0),(.int .u8 0),(.int .u8 0),(.int .u8 0)])]
def qbdu:IC:=zr [zv 5 (.mov (zc 20))]
def q8t:IC:=zr [zm 12 5,zv 13 (.bin .sub .no (.t 12) (zc 1)),zm 5 13]
def qbdd:IC:=zr [zm 14 5,zm 15 3,zv 16 (.bin .rem .no (.t 15) (.c (.int .u64 10))),zv 17 (.bin .add .no (.c (.int .u64 48)) (.t 16)),zv 18 (.cvi .u8 (.t 17)),zv 19 (.aad 1 20 (.t 4) (.t 14)),zn (.st 1 .id (.t 19) (.t 18))]
def qba6:IC:=zr [zm 20 3,zv 21 (.bin .quo .no (.t 20) (.c (.int .u64 10))),zm 3 21]
def qy4:IC:=zr [zm 22 3,zv 23 (zq (.t 22) (.c (.int .u64 0)))]
def q7h:IC:=(.block 1 (.seq q8t (.seq qbdd (.seq qba6 (.seq qy4 (.cond (.t 23) (.exit 0) .skip))))))
def q0e:IC:=zr [zm 24 0,zv 25 (.bin .lss .no (.t 24) (zc 0))]
def q5q:IC:=zr [zm 26 5,zv 27 (.sla 20 (.t 4) (.t 26)),zv 28 (.cbs (.t 27)),zv 29 (.bin .add .no (.c (.str [45])) (.t 28)),zm 2 29]
def q2x:IC:=zr [zm 30 5,zv 31 (.sla 20 (.t 4) (.t 30)),zv 32 (.cbs (.t 31)),zm 2 32]
def k0z:IC:=(.seq qbdj (.seq q8q (.seq (.seq q75 (.cond (.t 9) qbbs .skip)) (.seq qbcn (.seq qbdu (.seq (.block 0 (.loop q7h)) (.seq (.seq q0e (.cond (.t 25) (.seq q5q .ret) .skip)) (.seq q2x .ret))))))))
@[go_sem] def s0z:List (RV×Co):=[(.t 2,.id)]
theorem c0z:cFun Try.prog 94 = some (33,k0z,s0z):=by kernel_rfl

def q88:IC:=zr [zv 2 zf]
def q7l:IC:=zr [zm 3 0,zv 4 (.bin .geq .no (.t 3) (.c (.int .u8 65))),zm 5 4,zw 5 true 6 (zo 0),zw 5 true 7 (.bin .leq .no (.t 6) (.c (.int .u8 90))),zv 8 (.pick (.t 5) (.t 7) (.c (.bool false))),zm 2 8]
def k0u:IC:=(.seq q88 (.seq q7l .ret))
@[go_sem] def s0u:List (RV×Co):=[(.t 2,.id)]
theorem c0u:cFun Try.prog 95 = some (9,k0u,s0u):=by kernel_rfl

def q9l:IC:=zr [zv 2 zf]
def q77:IC:=zr [zm 5 0,zv 6 (.len true (.t 5)),zv 7 (.mov (zc 0))]
def q9c:IC:=zr [zv 8 (.bin .lss .no (.t 7) (.t 6))]
def qbcm:IC:=zr [zm 9 7,zm 3 9]
def q64:IC:=zr [zm 10 0,zm 11 3,zv 12 (.idx (.t 10) (.t 11)),zm 4 12]
def qbdk:IC:=zr [zm 13 4,zi 14 (zk 112 [zI 13]),zv 15 (.un .not (.t 14)),zm 16 15,zw 16 true 17 (zo 4),zj 16 true 18 (zk 95 [zI 17]),zw 16 true 19 (.un .not (.t 18)),zv 20 (.pick (.t 16) (.t 19) (.c (.bool false))),zm 21 20,zw 21 true 22 (zo 4),zw 21 true 23 (.bin .lss .no (.t 22) (.c (.int .u8 48))),zw 21 true 24 (zo 23),zw 24 false 25 (zo 4),zw 24 false 26 (.bin .gtr .no (.t 25) (.c (.int .u8 57))),zw 21 true 27 (.pick (.t 24) (.c (.bool true)) (.t 26)),zv 28 (.pick (.t 21) (.t 27) (.c (.bool false))),zm 29 28,zw 29 true 30 (zo 4),zw 29 true 31 (.bin .neq .no (.t 30) (.c (.int .u8 39))),zv 32 (.pick (.t 29) (.t 31) (.c (.bool false)))]
def qbc0:IC:=zr [zv 2 zf]
def q63:IC:=zr [zv 33 (.bin .add .no (.t 7) (zc 1)),zm 7 33]
def q8z:IC:=(.seq q9c (.seq (.cond (.t 8) .skip (.exit 0)) (.seq (.block 1 (.seq qbcm (.seq q64 (.seq qbdk (.cond (.t 32) (.seq qbc0 .ret) .skip))))) q63)))
def q49:IC:=zr [zv 2 (.mov (.c (.bool true)))]
def k0v:IC:=(.seq q9l (.seq (.seq q77 (.block 0 (.loop q8z))) (.seq q49 .ret)))
@[go_sem] def s0v:List (RV×Co):=[(.t 2,.id)]
theorem c0v:cFun Try.prog 96 = some (34,k0v,s0v):=by kernel_rfl

def qbdc:IC:=zr [zv 2 (.mov (zc 0)),zv 3 (.mov (zc 0))]
def q9n:IC:=zr [zm 8 0,zv 9 (zq (.t 8) (.c (.str [])))]
def qbah:IC:=zr [zv 2 (.mov (zc 0)),zv 3 (.mov (zc 5))]
def qbdg:IC:=zr [zv 4 (.mov (zc 0))]
def qba7:IC:=zr [zm 10 4,zm 11 0,zv 12 (.len true (.t 11)),zv 13 (.bin .lss .no (.t 10) (.t 12))]
def q9z:IC:=zr [zm 16 0,zm 17 4,zv 18 (.idx (.t 16) (.t 17)),zv 19 (.bin .lss .no (.t 18) (.c (.int .u8 48))),zm 20 19,zw 20 false 21 (zo 0),zw 20 false 22 (zo 4),zw 20 false 23 (.idx (.t 21) (.t 22)),zw 20 false 24 (.bin .gtr .no (.t 23) (.c (.int .u8 57))),zv 25 (.pick (.t 20) (.c (.bool true)) (.t 24))]
def qbch:IC:=zr [zv 2 (.mov (zc 0)),zv 3 (.mov (zc 5))]
def qbaz:IC:=zr [zm 14 4,zv 15 (.bin .add .no (.t 14) (zc 1)),zm 4 15]
def qbde:IC:=(.seq (.seq qba7 (.cond (.t 13) .skip (.exit 0))) (.seq (.block 1 (.seq q9z (.cond (.t 25) (.seq qbch .ret) .skip))) qbaz))
def q14:IC:=zr [zv 5 (.mov (zc 0))]
def q2u:IC:=zr [zv 6 (.mov (zc 0))]
def q5r:IC:=zr [zm 26 6,zm 27 0,zv 28 (.len true (.t 27)),zv 29 (.bin .lss .no (.t 26) (.t 28))]
def qzl:IC:=zr [zm 32 0,zm 33 6,zv 34 (.idx (.t 32) (.t 33)),zv 35 (.bin .sub .no (.t 34) (.c (.int .u8 48))),zv 36 (.cvi .i64 (.t 35)),zm 7 36]
def q2p:IC:=zr [zm 37 5,zm 38 7,zv 39 (.bin .sub .no (zc 9223372036854775807) (.t 38)),zv 40 (.bin .quo .no (.t 39) (zc 10)),zv 41 (.bin .gtr .no (.t 37) (.t 40))]
def qzg:IC:=zr [zv 2 (.mov (zc 0)),zv 3 (.mov (zc 4))]
def qz6:IC:=zr [zm 42 5,zv 43 (.bin .mul .no (zc 10) (.t 42)),zm 44 7,zv 45 (.bin .add .no (.t 43) (.t 44)),zm 5 45]
def qy9:IC:=zr [zm 30 6,zv 31 (.bin .add .no (.t 30) (zc 1)),zm 6 31]
def q30:IC:=(.seq (.seq q5r (.cond (.t 29) .skip (.exit 2))) (.seq (.block 3 (.seq qzl (.seq (.seq q2p (.cond (.t 41) (.seq qzg .ret) .skip)) qz6))) qy9))
def q1x:IC:=zr [zm 46 5,zm 2 46,zv 3 (.mov (zc 0))]
def k0r:IC:=(.seq qbdc (.seq (.seq q9n (.cond (.t 9) (.seq qbah .ret) .skip)) (.seq (.seq qbdg (.block 0 (.loop qbde))) (.seq q14 (.seq (.seq q2u (.block 2 (.loop q30))) (.seq q1x .ret))))))
@[go_sem] def s0r:List (RV×Co):=[(.t 2,.id),(.t 3,.id)]
theorem c0r:cFun Try.prog 97 = some (47,k0r,s0r):=by kernel_rfl

def q9r:IC:=zr [zi 2 (.alo [(.str []),(.int .i64 0),.nils])]
def qba8:IC:=zr [zm 6 0,zi 7 (zk 118 [zI 6]),zm 3 7]
def qbdf:IC:=zr [zm 8 3,zv 9 (.bin .geq .no (.t 8) (zc 0))]
def q8k:IC:=zr [zm 10 3,zv 11 (.bld [(.str []),(.int .i64 0),.nils] [(1,1,(.t 10))]),zn (.st 3 (.agg [.id,.id,(.sl 3)]) (.t 2) (.t 11))]
def qba9:IC:=zr [zm 12 0,zi 13 (zk 73 [zI 12,((.c (.str [63])),.id)])]
def q7t:IC:=zr [zm 15 0,zv 16 (.sls (.t 15) (some (zc 1)) none),zi 17 (zk 93 [zI 16]),zm 14 17,zv 18 (zx 14 0),zv 19 (zx 14 1),zm 4 18,zm 5 19]
def qbcq:IC:=zr [zm 20 5,zv 21 (zq (.t 20) (zc 0))]
def q99:IC:=zr [zm 22 4,zv 23 (.bin .sub .no (zc (-1)) (.t 22)),zv 24 (.bld [(.str []),(.int .i64 0),.nils] [(1,1,(.t 23))]),zn (.st 3 (.agg [.id,.id,(.sl 3)]) (.t 2) (.t 24))]
def q74:IC:=zr [zm 25 0,zv 26 (.bld [(.str []),(.int .i64 0),.nils] [(0,1,(.t 25))]),zn (.st 3 (.agg [.id,.id,(.sl 3)]) (.t 2) (.t 26))]
def k0f:IC:=(.seq q9r (.seq (.seq qba8 (.seq qbdf (.cond (.t 9) (.seq q8k .ret) .skip))) (.seq (.seq qba9 (.cond (.t 13) (.seq q7t (.seq qbcq (.cond (.t 21) (.seq q99 .ret) .skip))) .skip)) (.seq q74 .ret))))
@[go_sem] def s0f:List (RV×Co):=[(.c true 3 2,(.agg [.id,.id,(.sl 3)]))]
theorem c0f:cFun Try.prog 101 = some (27,k0f,s0f):=by kernel_rfl

def qban:IC:=zr [zv 4 zf]
def qbat:IC:=zr [zm 5 0,zv 6 (.len true (.t 5)),zm 7 1,zv 8 (.len true (.t 7)),zv 9 (.bin .geq .no (.t 6) (.t 8)),zm 10 9,zw 10 true 11 (zo 0),zw 10 true 12 (zo 1),zw 10 true 13 (.len true (.t 12)),zw 10 true 14 (.sls (.t 11) none (some (.t 13))),zw 10 true 15 (zo 1),zw 10 true 16 (zq (.t 14) (.t 15)),zv 17 (.pick (.t 10) (.t 16) (.c (.bool false))),zm 4 17]
def k0p:IC:=(.seq qban (.seq qbat .ret))
@[go_sem] def s0p:List (RV×Co):=[(.t 4,.id)]
theorem c0p:cFun Try.prog 102 = some (18,k0p,s0p):=by kernel_rfl

def qbao:IC:=zr [zv 2 (.mov (.c (.int .u64 0)))]
def q9y:IC:=zr [zm 3 0,zv 4 (.bin .lss .no (.t 3) (zc 0))]
def qba0:IC:=zr [zm 5 0,zv 6 (.cvi .u64 (.t 5)),zv 7 (.un .neg (.t 6)),zm 2 7]
def q7g:IC:=zr [zm 8 0,zv 9 (.cvi .u64 (.t 8)),zm 2 9]
def k0x:IC:=(.seq qbao (.seq (.seq q9y (.cond (.t 4) (.seq qba0 .ret) .skip)) (.seq q7g .ret)))
@[go_sem] def s0x:List (RV×Co):=[(.t 2,.id)]
theorem c0x:cFun Try.prog 104 = some (10,k0x,s0x):=by kernel_rfl

def q2d:IC:=zr [zv 2 (.mov (.c (.str [])))]
def q5t:IC:=zr [zm 4 0,zv 5 (.bin .lss .no (.t 4) (zc 0))]
def q33:IC:=zr [zv 2 (.mov (.c (.str [])))]
def q0h:IC:=zr [zm 6 0,zv 7 (.bin .rem .no (.t 6) (zc 26)),zv 8 (.bin .add .no (zc 97) (.t 7)),zv 9 (.cvi .u8 (.t 8)),zv 10 (.bsl 1 [zI 9]),zv 11 (.cbs (.t 10)),zm 3 11]
def qzz:IC:=zr [zm 12 0,zv 13 (.bin .lss .no (.t 12) (zc 26))]
def q4u:IC:=zr [zm 14 3,zm 2 14]
def qz3:IC:=zr [zm 15 3,zm 16 0,zv 17 (.bin .quo .no (.t 16) (zc 26)),zi 18 (zk 94 [zI 17]),zv 19 (.bin .add .no (.t 15) (.t 18)),zm 2 19]
def k0ba:IC:=(.seq q2d (.seq (.seq q5t (.cond (.t 5) (.seq q33 .ret) .skip)) (.seq q0h (.seq (.seq qzz (.cond (.t 13) (.seq q4u .ret) .skip)) (.seq qz3 .ret)))))
@[go_sem] def s0ba:List (RV×Co):=[(.t 2,.id)]
theorem c0ba:cFun Try.prog 106 = some (20,k0ba,s0ba):=by kernel_rfl

def qbbj:IC:=zr [zv 2 zf]
def q8s:IC:=zr [zm 3 0,zv 4 (.bin .geq .no (.t 3) (.c (.int .u8 97))),zm 5 4,zw 5 true 6 (zo 0),zw 5 true 7 (.bin .leq .no (.t 6) (.c (.int .u8 122))),zv 8 (.pick (.t 5) (.t 7) (.c (.bool false))),zm 9 8,zw 9 false 10 (zo 0),zw 9 false 11 (zq (.t 10) (.c (.int .u8 95))),zv 12 (.pick (.t 9) (.c (.bool true)) (.t 11)),zm 2 12]
def k0t:IC:=(.seq qbbj (.seq q8s .ret))
@[go_sem] def s0t:List (RV×Co):=[(.t 2,.id)]
theorem c0t:cFun Try.prog 112 = some (13,k0t,s0t):=by kernel_rfl

def q93:IC:=zr [zv 2 (.mov (zc 0))]
def q9a:IC:=zr [zm 6 0,zv 7 (zq (.t 6) (.c (.str []))),zm 8 7,zw 8 false 9 (zo 0),zw 8 false 10 (.idx (.t 9) (zc 0)),zw 8 false 11 (.bin .lss .no (.t 10) (.c (.int .u8 97))),zv 12 (.pick (.t 8) (.c (.bool true)) (.t 11)),zm 13 12,zw 13 false 14 (zo 0),zw 13 false 15 (.idx (.t 14) (zc 0)),zw 13 false 16 (.bin .gtr .no (.t 15) (.c (.int .u8 122))),zv 17 (.pick (.t 13) (.c (.bool true)) (.t 16))]
def qbcr:IC:=zr [zv 2 (.mov (zc (-1)))]
def qbdb:IC:=zr [zm 18 0,zv 19 (.idx (.t 18) (zc 0)),zv 20 (.bin .sub .no (.t 19) (.c (.int .u8 97))),zv 21 (.cvi .i64 (.t 20)),zm 3 21]
def q6y:IC:=zr [zm 22 0,zv 23 (.len true (.t 22)),zv 24 (.bin .gtr .no (.t 23) (zc 1))]
def qbbi:IC:=zr [zm 26 0,zv 27 (.sls (.t 26) (some (zc 1)) none),zi 28 (zk 93 [zI 27]),zm 25 28,zv 29 (zx 25 0),zv 30 (zx 25 1),zm 4 29,zm 5 30]
def qbae:IC:=zr [zm 31 5,zv 32 (.bin .neq .no (.t 31) (zc 0)),zm 33 32,zw 33 false 34 (zo 4),zw 33 false 35 (.bin .gtr .no (.t 34) (zc 177372539170284150)),zv 36 (.pick (.t 33) (.c (.bool true)) (.t 35))]
def q91:IC:=zr [zv 2 (.mov (zc (-1)))]
def qbbl:IC:=zr [zm 37 3,zm 38 4,zv 39 (.bin .mul .no (zc 26) (.t 38)),zv 40 (.bin .add .no (.t 37) (.t 39)),zm 3 40]
def q87:IC:=zr [zm 41 3,zv 42 (.bin .gtr .no (.t 41) (zc 4611686018427387904)),zm 43 42,zw 43 false 44 (zo 3),zj 43 false 45 (zk 106 [zI 44]),zw 43 false 46 (zo 0),zw 43 false 47 (.bin .neq .no (.t 45) (.t 46)),zv 48 (.pick (.t 43) (.c (.bool true)) (.t 47))]
def q0d:IC:=zr [zv 2 (.mov (zc (-1)))]
def qzi:IC:=zr [zm 49 3,zm 2 49]
def k0i:IC:=(.seq q93 (.seq (.seq q9a (.cond (.t 17) (.seq qbcr .ret) .skip)) (.seq qbdb (.seq (.seq q6y (.cond (.t 24) (.seq qbbi (.seq (.seq qbae (.cond (.t 36) (.seq q91 .ret) .skip)) qbbl)) .skip)) (.seq (.seq q87 (.cond (.t 48) (.seq q0d .ret) .skip)) (.seq qzi .ret))))))
@[go_sem] def s0i:List (RV×Co):=[(.t 2,.id)]
theorem c0i:cFun Try.prog 118 = some (50,k0i,s0i):=by kernel_rfl

end Go.Proofs.Ytlahgbhhejkgbaa
