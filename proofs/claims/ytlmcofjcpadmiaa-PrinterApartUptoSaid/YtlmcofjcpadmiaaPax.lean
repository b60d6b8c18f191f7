/- Texts of this proof, joined. -/
import Derived.Test.YtlmcofjcpadmiaaPaw
import Derived.Test.YtlmcofjcpadmiaaPan
set_option linter.unusedVariables false
set_option linter.unusedSimpArgs false

/- expressions: what is read (plain) -/
namespace Go.Proofs.Ytlmcofjcpadmiaa
open Go Go.RowKit Go.V

def qic (c:K):Option N :=
 if (qr c).kind = 1 then some (qll c 21 [])
 else if (qr c).kind = 2 then some (qll c 22 [])
 else if (qr c).kind = 3 then some (.mk 23 (qr c).pos (qr c).num [] [])
 else none
def begE (c:K):Bool:=(qic c).isSome || isK c [40]
def qbn (rec:K->K×Option N) (c:K):K×Option N :=
 if (qic c).isSome = true then (qk c,qic c)
 else if isK c [40] = true then
  if (qi c).2 = true then
   if (rec (qk (qi c).1)).2.isSome = true then
    if (qb6 (rec (qk (qi c).1)).1 [41]).2 = true then (qc3 (qb6 (rec (qk (qi c).1)).1 [41]).1,(rec (qk (qi c).1)).2)
    else ((qb6 (rec (qk (qi c).1)).1 [41]).1,none)
   else ((rec (qk (qi c).1)).1,none)
  else ((qi c).1,none)
 else (qg9 c 5,none)
abbrev R3:=K×N×Bool
def ofO (r:K×Option N):R3:=(r.1,r.2.getD N0,r.2.isSome)
def toO (r:R3):K×Option N:=(r.1,if r.2.2 = true then some r.2.1 else none)
def appN (n k:N):N:=.mk 24 n.pos 0 [] [n,k]
def qgz (rec:K->K×Option N):Nat->K->N->R3
 | 0,c,n=>(c,n,false)
 | f + 1, c, n =>
   if begE c = true then
    if (qbn rec c).2.isSome = true then qgz rec f (qbn rec c).1 (appN n ((qbn rec c).2.getD N0))
    else ((qbn rec c).1,appN n ((qbn rec c).2.getD N0),false)
   else (c,n,true)
def qqq (rec:K->K×Option N) (c:K):R3 :=
 if (qbn rec c).2.isSome = true then qgz rec (rest (qbn rec c).1 + 1) (qbn rec c).1 ((qbn rec c).2.getD N0)
 else ((qbn rec c).1,(qbn rec c).2.getD N0,false)
def lamN (t:T) (n:N):N:=.mk 25 t.pos 0 t.text [n]
def qeg (rec:K->K×Option N) (x:List UInt8):Nat->K->R3
 | 0,c=>(c,N0,false)
 | f + 1, c =>
   if (qr c).kind = 1 then ((qeg rec x f (qk c)).1,lamN (qr c) (qeg rec x f (qk c)).2.1,(qeg rec x f (qk c)).2.2)
   else if (qb6 c x).2 = true then ofO (rec (qb6 c x).1)
   else ((qb6 c x).1,N0,false)
def qbc1 (k:Int) (t:T) (n:N):N:=.mk k t.pos 0 t.text [n]
def qg6 (rec:K->K×Option N) (c:K):K×Option N :=
 if (kindK c 1).2 = true then
  if (qbh (kindK c 1).1 [58,58]).2 = true then
   ((qjr (rest (qbh (kindK c 1).1 [58,58]).1 + 2) (qbh (kindK c 1).1 [58,58]).1).1,(qjr (rest (qbh (kindK c 1).1 [58,58]).1 + 2) (qbh (kindK c 1).1 [58,58]).1).2.map (qbc1 32 (qsd c 1)))
  else ((qeg rec [61] (rest (kindK c 1).1 + 1) (kindK c 1).1).1,(toO (qeg rec [61] (rest (kindK c 1).1 + 1) (kindK c 1).1)).2.map (qbc1 31 (qsd c 1)))
 else ((kindK c 1).1,none)
abbrev RL:=K×List N×Bool
def qek (rd:K->R3):Nat->K->List N->RL
 | 0,c,_=>(c,[],false)
 | f + 1, c, acc =>
   if (rd c).2.2 = true then
    if ((qbh (rd c).1 [59]).2 && !isK (qbh (rd c).1 [59]).1 [125]) = true then qek rd f (qbh (rd c).1 [59]).1 (acc ++ [(rd c).2.1])
    else ((qb6 (qbh (rd c).1 [59]).1 [125]).1,acc ++ [(rd c).2.1],(qb6 (qbh (rd c).1 [59]).1 [125]).2)
   else ((rd c).1,[],false)
def qf7 (rd:K->R3) (c:K):RL :=
 if (qb6 c [123]).2 = true then qek rd (rest (qb6 c [123]).1 + 1) (qb6 c [123]).1 [] else ((qb6 c [123]).1,[],false)
def posN (p:Int):N:=.mk 0 p 0 [] []
def letC (rec:K->K×Option N) (p:Int) (l:List N) (w:K×Bool):R3 :=
 if w.2 = true then ((rec w.1).1,.mk 26 p 0 [] (l ++ [(rec w.1).2.getD N0]),(rec w.1).2.isSome) else (w.1,posN p,false)
def letB (rec:K->K×Option N) (p:Int) (l:RL):R3 :=
 if l.2.2 = true then letC rec p l.2.1 (qb6 l.1 [105,110]) else (l.1,posN p,false)
def q1c (rec:K->K×Option N) (p:Int) (c:K):R3:=letB rec p (qf7 (fun c=>ofO (qg6 rec c)) c)
def altN (p e:N):N:=.mk 15 p.pos 0 [] [p,e]
def altC (rec:K->K×Option N) (p:N) (w:K×Bool):R3 :=
 if w.2 = true then ((rec w.1).1,altN p ((rec w.1).2.getD N0),(rec w.1).2.isSome) else (w.1,p,false)
def altB (rec:K->K×Option N) (r:K×Option N):R3 :=
 if r.2.isSome = true then altC rec (r.2.getD N0) (qb6 r.1 [45,62]) else (r.1,r.2.getD N0,false)
def qq6 (rec:K->K×Option N) (c:K):R3:=altB rec (qj8 (rest c + 2) c)
def qbf2 (p:Int) (x:N) (l:RL):R3:=(l.1,.mk 27 p 0 [] (x :: l.2.1),l.2.2)
def q99 (rec:K->K×Option N) (p:Int) (x:N) (w:K×Bool):R3 :=
 if w.2 = true then qbf2 p x (qf7 (qq6 rec) w.1) else (w.1,posN p,false)
def qvh (rec:K->K×Option N) (p:Int) (c:K):R3 :=
 if (rec c).2.isSome = true then q99 rec p ((rec c).2.getD N0) (qb6 (rec c).1 [111,102]) else ((rec c).1,posN p,false)
def ifsK (c:K) (w:List UInt8):K×Bool:=if w = [] then (c,true) else qb6 c w
def qkr (rec:K->K×Option N) (p:Int):List (List UInt8)->K->List N->R3
 | [],c,acc=>(c,.mk 28 p 0 [] acc,true)
 | w :: r, c, acc =>
   if (ifsK c w).2 = true then
    if (rec (ifsK c w).1).2.isSome = true then qkr rec p r (rec (ifsK c w).1).1 (acc ++ [(rec (ifsK c w).1).2.getD N0])
    else ((rec (ifsK c w).1).1,.mk 28 p 0 [] acc,false)
   else ((ifsK c w).1,.mk 28 p 0 [] acc,false)
def ifsW:List (List UInt8):=[[],[116,104,101,110],[101,108,115,101]]
def qir (rec:K->K×Option N) (c:K):R3 :=
 if (qbh c [92]).2 = true then
  if (qr (qbh c [92]).1).kind = 1 then qeg rec [45,62] (rest (qbh c [92]).1 + 1) (qbh c [92]).1
  else (qg9 (qbh c [92]).1 5,posN (qr c).pos,false)
 else if (qbh c [108,101,116]).2 = true then q1c rec (qr c).pos (qbh c [108,101,116]).1
 else if (qbh c [99,97,115,101]).2 = true then qvh rec (qr c).pos (qbh c [99,97,115,101]).1
 else if (qbh c [105,102]).2 = true then qkr rec (qr c).pos ifsW (qbh c [105,102]).1 []
 else qqq rec c
def qn2:Nat->K->K×Option N
 | 0,c=>(c,none)
 | f + 1, c =>
   if (qi c).2 = true then (qc3 (qir (qn2 f) (qi c).1).1,(toO (qir (qn2 f) (qi c).1)).2)
   else ((qi c).1,none)


def resB (r:N×Bool):AV:=.tup [enc r.1,.bool r.2]
attribute [go_sem] resB






/-! The size of what is read. -/
def SzO (c:K) (r:K×Option N):Prop:=∀ n,r.2 = some n->sz n + 1 + 2 * rest r.1≤2 * rest c
def expV (s:List UInt8):N×Int×Int:=qyb (fun c=>qn2 (rest c + 2) c) s

def bare (t:T):T:=⟨t.kind,0,t.num,t.text⟩
def remT (c:K):List T:=c.l.drop c.at'
def Stop (tl:List T):Prop:=tl = []∨∃ t,tl = [t]∧t.kind = 5∧(t.text = [41]∨t.text = [125]∨t.text = [59])
def NS (a b:N):Prop:=qf a = qf b
theorem NS.mk {k p p' m m':Int} {t t':List UInt8} {l l':List N} (hm:m = m') (ht:t = t') (hl:l.map qf = l'.map qf):NS (.mk k p m t l) (.mk k p' m' t' l'):=by
 subst hm ht
 unfold NS
 rw [qf,qf,qb2,qb2,hl]
section
variable {δ:Int} {tl:List T} {c c':K}
theorem qzd (c:K):(remT c).length = rest c:=by simp [remT,rest]
theorem qoc {t:T} {r:List T} (h:remT c = t :: r) (he:c.err = 0):qr c = t∧c.at' < c.l.length:=by
 have hl:c.at' < c.l.length:=by
  have:=congrArg List.length h
  simp [remT] at this;omega
 have h1:c.l.getD c.at' T0 = t:=by
  have:=qbdf hl
  unfold remT at h
  rw [h] at this
  exact (List.cons.inj this).1.symm
 rw [qpw he (by omega)]
 exact ⟨h1,hl⟩
theorem qyh (h:remT c = []) (he:c.err = 0):qr c = ⟨0,c.ep,0,[]⟩:=by
 refine qnj he ?_
 have:=congrArg List.length h
 simp [remT] at this;omega
theorem qwi {t:T} {r:List T} (h:remT c = t :: r) (he:c.err = 0):remT (qk c) = r∧(qk c).err = 0∧(qk c).nest = c.nest:=by
 obtain ⟨_,hl⟩:=qoc h he
 rw [qqf he (by omega)]
 refine ⟨?_,he,rfl⟩
 have:=qbdf hl
 unfold remT at h
 rw [h] at this
 exact (List.cons.inj this).2.symm
theorem qjw {t t':T} (h:bare t = bare t'):t.kind = t'.kind:=show (bare t).kind = (bare t').kind from congrArg T.kind h
theorem qxo {t t':T} (h:bare t = bare t'):t.num = t'.num:=show (bare t).num = (bare t').num from congrArg T.num h
theorem qji {t t':T} (h:bare t = bare t'):t.text = t'.text:=show (bare t).text = (bare t').text from congrArg T.text h
theorem qvd {t t':T} (h:bare t = bare t') (x:List UInt8):qba t x = qba t' x:=by unfold qba;rw [qjw h,qji h]
theorem qsf {t t':T} (h:bare t = bare t') (x:List (List UInt8)):qc5 t x = qc5 t' x:=by unfold qc5;rw [qjw h,qji h]
end
end Go.Proofs.Ytlmcofjcpadmiaa
