/-
  Parts of the proof, from: Trees with pairs: of tuples.
-/
import Derived.KernelRfl
import Derived.Test.YtacccjmlocoahaaGreatZ6

set_option linter.unusedVariables false
set_option linter.unusedSimpArgs false
set_option linter.unusedSectionVars false
section
set_option maxRecDepth 100000
set_option maxHeartbeats 4000000
namespace Go.V
abbrev clC:Val:=.func (.func 34) [] []
abbrev putCF (p:(Tup×Unit)) (t:T (Tup×Unit)):T (Tup×Unit):=T.put Prod.fst (fun q p=>(q.1,p.2)) cmpTup p t
theorem putC (m0:T (Tup×Unit)) (p:(Tup×Unit)): ∀ (t:T (Tup×Unit)) {N:Nat} (_:N≤100000000000000000) (_:t.ok) (_:t.list.length+1≤N),PC EN 169 [.agg [clC,m0.v cC],t.v cC,.agg (cC p)] false [(putCF p t).v cC]:=by
 intro t
 induction t with
 |nil=>
  intro N hN _ _
  refine PC.fw ?_
  have hj:=joinC p .nil .nil (N:=N) (by omega) ⟨Nat.zero_le _,Nat.zero_le _⟩ ⟨Nat.zero_le _,Nat.zero_le _⟩
  (refine gcC hj ?_;try exact True.intro)
  (refine gfC ?_;try exact True.intro)
  rfl
 |node q l r n d ihl ihr=>
  intro N hN hok hlen
  have hsum:l.list.length+r.list.length+2≤N:=by simp only [T.list,List.length_append,List.length_cons] at hlen;omega
  have okl:=hok.1
  have okr:=hok.2.1
  have ihl:=ihl hN okl (by omega)
  have ihr:=ihr hN okr (by omega)
  obtain ⟨pl1,pl2⟩:=T.put_ok (key:=Prod.fst) (repl:=fun q p=>(q.1,p.2)) (cmp:=cmpTup) (p:=p) okl
  obtain ⟨pr1,pr2⟩:=T.put_ok (key:=Prod.fst) (repl:=fun q p=>(q.1,p.2)) (cmp:=cmpTup) (p:=p) okr
  have hb1:=balanceC q (putCF p l) r hN (T.ok_lim pl1 (by omega)) (T.ok_lim okr (by omega))
  have hb2:=balanceC q l (putCF p r) hN (T.ok_lim okl (by omega)) (T.ok_lim pr1 (by omega))
  have hj:=joinC (q.1,p.2) l r (N:=N) (by omega) (T.lim_sz (T.ok_lim okl (by omega))) (T.lim_sz (T.ok_lim okr (by omega)))
  clear pl1 pl2 pr1 pr2 okl okr hsum hlen hok
  refine PC.fw ?_
  rcases Classical.propComplete (cmpTup ⟨⟨⟨p.1.goal.obj.space,p.1.goal.obj.id⟩,p.1.goal.rel⟩,⟨⟨p.1.sub.obj.space,p.1.sub.obj.id⟩,p.1.sub.rel⟩⟩ ⟨⟨⟨q.1.goal.obj.space,q.1.goal.obj.id⟩,q.1.goal.rel⟩,⟨⟨q.1.sub.obj.space,q.1.sub.obj.id⟩,q.1.sub.rel⟩⟩<0) with h1|h1
  ·have hs:putCF p (.node q l r n d)=T.balance q (putCF p l) r:=by
    show T.put _ _ _ p (.node q l r n d)=_
    rw [T.put,if_pos (of_eq_true h1)]
   rw [hs]
   clear hs
   (refine gcC (And.intro cmpTup_ok (And.intro ihl hb1)) ?_;try exact True.intro)
   (refine gfC ?_;try exact True.intro)
  ·rcases Classical.propComplete (cmpTup ⟨⟨⟨p.1.goal.obj.space,p.1.goal.obj.id⟩,p.1.goal.rel⟩,⟨⟨p.1.sub.obj.space,p.1.sub.obj.id⟩,p.1.sub.rel⟩⟩ ⟨⟨⟨q.1.goal.obj.space,q.1.goal.obj.id⟩,q.1.goal.rel⟩,⟨⟨q.1.sub.obj.space,q.1.sub.obj.id⟩,q.1.sub.rel⟩⟩>0) with h2|h2
   ·have hs:putCF p (.node q l r n d)=T.balance q l (putCF p r):=by
     show T.put _ _ _ p (.node q l r n d)=_
     rw [T.put,if_neg (of_eq_false h1),if_pos (of_eq_true h2)]
    rw [hs]
    clear hs
    (refine gcC (And.intro cmpTup_ok (And.intro ihr hb2)) ?_;try exact True.intro)
    (refine gfC ?_;try exact True.intro)
   ·have hs:putCF p (.node q l r n d)=T.join (q.1,p.2) l r:=by
     show T.put _ _ _ p (.node q l r n d)=_
     rw [T.put,if_neg (of_eq_false h1),if_neg (of_eq_false h2)]
    rw [hs]
    clear hs
    (refine gcC (And.intro cmpTup_ok hj) ?_;try exact True.intro)
    (refine gfC ?_;try exact True.intro)
theorem lenC (x:Val) (hx:x=clC∨x=.nilf) (t:T (Tup×Unit)):PC EN 123 [.agg [x,t.v cC]] true [.int .i64 t.sz]:=by
 refine PC.fw ?_
 rcases hx with rfl|rfl
 ·(refine gcC sizeC ?_;try exact True.intro)
  (refine gfC ?_;try exact True.intro)
 ·(refine gcC sizeC ?_;try exact True.intro)
  (refine gfC ?_;try exact True.intro)
theorem PutC (m:T (Tup×Unit)) (p:(Tup×Unit)) {N:Nat} (hN:N≤100000000000000000) (hok:m.ok) (hlen:m.list.length+1≤N):PC EN 126 [.agg [clC,m.v cC],.agg [.str p.1.goal.obj.space,.str p.1.goal.obj.id,.str p.1.goal.rel,.str p.1.sub.obj.space,.str p.1.sub.obj.id,.str p.1.sub.rel],.agg []] false [.agg [clC,(putCF p m).v cC]]:=by
 have hp:=putC m p m hN hok hlen
 refine PC.fw ?_
 (refine gcC hp ?_;try exact True.intro)
 (refine gfC ?_;try exact True.intro)
end Go.V
end
section
set_option maxRecDepth 100000
set_option maxHeartbeats 4000000
namespace Go.V
theorem newC:PC EN 124 [clC] true [.agg [clC,.nilp]]:=by
 refine PC.fw ?_
 (refine gaC ?_;try exact True.intro)
 (refine gfC ?_;try exact True.intro)
theorem treeC (k:Tup) (t0:T (Tup×Unit)):PC EN 122 [.agg [clC,t0.v cC],.agg [.str k.goal.obj.space,.str k.goal.obj.id,.str k.goal.rel,.str k.sub.obj.space,.str k.sub.obj.id,.str k.sub.rel]] false [(match T.get cmpTup k t0 with|some v=>.agg []|none=>.agg []),.bool (T.get cmpTup k t0).isSome]:=by
 refine PC.fw ?_
 (refine gaC ?_;try exact True.intro)
 refine GE.weak (.mk (l2:=(6,t0.v cC)::[(2,.ptr 0 0),(3,.ptr 1 0),(4,.ptr 2 0),(5,.bool false)]) (by (refine zUC ?_;try exact True.intro))) ?_
 refine GE.rounds (fun t:T (Tup×Unit)=>(6,t.v cC)::[(2,.ptr 0 0),(3,.ptr 1 0),(4,.ptr 2 0),(5,.bool false)]) (fun _=>hp 3 0 [] [(2,some (.cells [])),(1,some (.cells [.str k.goal.obj.space,.str k.goal.obj.id,.str k.goal.rel,.str k.sub.obj.space,.str k.sub.obj.id,.str k.sub.rel])),(0,some (.cells [clC,t0.v cC]))]) (fun t=>T.get cmpTup k t=T.get cmpTup k t0) (fun t=>t.cnt) ?_ t0 rfl
 intro t he
 cases t with
 |nil=>
  have hr:T.get cmpTup k t0=none:=he.symm
  rw [hr]
  clear he hr
  (refine gaC ?_;try exact True.intro)
  (refine gfC ?_;try exact True.intro)
 |node q l r n d=>
  rw [T.get] at he
  rcases Classical.propComplete (cmpTup ⟨⟨⟨k.goal.obj.space,k.goal.obj.id⟩,k.goal.rel⟩,⟨⟨k.sub.obj.space,k.sub.obj.id⟩,k.sub.rel⟩⟩ ⟨⟨⟨q.1.goal.obj.space,q.1.goal.obj.id⟩,q.1.goal.rel⟩,⟨⟨q.1.sub.obj.space,q.1.sub.obj.id⟩,q.1.sub.rel⟩⟩=0) with h1|h1
  ·rw [if_pos (show cmpTup k q.1=0 from of_eq_true h1)] at he
   rw [←he]
   have hb:(cmpTup ⟨⟨⟨k.goal.obj.space,k.goal.obj.id⟩,k.goal.rel⟩,⟨⟨k.sub.obj.space,k.sub.obj.id⟩,k.sub.rel⟩⟩ ⟨⟨⟨q.1.goal.obj.space,q.1.goal.obj.id⟩,q.1.goal.rel⟩,⟨⟨q.1.sub.obj.space,q.1.sub.obj.id⟩,q.1.sub.rel⟩⟩==0)=true:=by have:=of_eq_true h1;simp only [this];rfl
   clear he h1
   (refine gcC cmpTup_ok ?_;try exact True.intro)
   (refine gfC ?_;try exact True.intro)
  ·rw [if_neg (show ¬ cmpTup k q.1=0 from of_eq_false h1)] at he
   have hb:(cmpTup ⟨⟨⟨k.goal.obj.space,k.goal.obj.id⟩,k.goal.rel⟩,⟨⟨k.sub.obj.space,k.sub.obj.id⟩,k.sub.rel⟩⟩ ⟨⟨⟨q.1.goal.obj.space,q.1.goal.obj.id⟩,q.1.goal.rel⟩,⟨⟨q.1.sub.obj.space,q.1.sub.obj.id⟩,q.1.sub.rel⟩⟩==0)=false:=by have:=of_eq_false h1;simpa using this
   clear h1
   rcases Classical.propComplete (cmpTup ⟨⟨⟨k.goal.obj.space,k.goal.obj.id⟩,k.goal.rel⟩,⟨⟨k.sub.obj.space,k.sub.obj.id⟩,k.sub.rel⟩⟩ ⟨⟨⟨q.1.goal.obj.space,q.1.goal.obj.id⟩,q.1.goal.rel⟩,⟨⟨q.1.sub.obj.space,q.1.sub.obj.id⟩,q.1.sub.rel⟩⟩<0) with h2|h2
   ·rw [if_pos (show cmpTup k q.1<0 from of_eq_true h2)] at he
    (refine gcC cmpTup_ok ?_;try exact True.intro)
    refine round_normal l he (by show T.cnt l<l.cnt+1+r.cnt;omega) ?_
    (refine gwC ?_;try exact True.intro)
   ·rw [if_neg (show ¬ cmpTup k q.1<0 from of_eq_false h2)] at he
    (refine gcC cmpTup_ok ?_;try exact True.intro)
    refine round_normal r he (by show T.cnt r<l.cnt+1+r.cnt;omega) ?_
    (refine gwC ?_;try exact True.intro)
end Go.V
end
section
set_option maxRecDepth 100000
set_option maxHeartbeats 4000000
namespace Go.V
def cmpSubj (a b:Tup):Int:=orI [cmpGoal a.sub b.sub,cmpGoal a.goal b.goal]
theorem subj_ok (a1 a2 a3 a4 a5 a6 b1 b2 b3 b4 b5 b6:Str):PC EN 72 [.agg [.str a1,.str a2,.str a3,.str a4,.str a5,.str a6],.agg [.str b1,.str b2,.str b3,.str b4,.str b5,.str b6]] true [.int .i64 (cmpSubj ⟨⟨⟨a1,a2⟩,a3⟩,⟨⟨a4,a5⟩,a6⟩⟩ ⟨⟨⟨b1,b2⟩,b3⟩,⟨⟨b4,b5⟩,b6⟩⟩)]:=by
 refine PC.fw ?_
 (refine gcC (And.intro cmpSub_ok (And.intro cmpGoal_ok (fun z1 z2=>or_ok [z1,z2] 0 (Nat.le_of_ble_eq_true rfl)))) ?_;try exact True.intro)
 (refine gfC ?_;try exact True.intro)
 rfl
abbrev clS:Val:=.func (.func 72) [] []
abbrev putSF (p:(Tup×Unit)) (t:T (Tup×Unit)):T (Tup×Unit):=T.put Prod.fst (fun q p=>(q.1,p.2)) cmpSubj p t
theorem putS (m0:T (Tup×Unit)) (p:(Tup×Unit)): ∀ (t:T (Tup×Unit)) {N:Nat} (_:N≤100000000000000000) (_:t.ok) (_:t.list.length+1≤N),PC EN 169 [.agg [clS,m0.v cC],t.v cC,.agg (cC p)] false [(putSF p t).v cC]:=by
 intro t
 induction t with
 |nil=>
  intro N hN _ _
  refine PC.fw ?_
  have hj:=joinC p .nil .nil (N:=N) (by omega) ⟨Nat.zero_le _,Nat.zero_le _⟩ ⟨Nat.zero_le _,Nat.zero_le _⟩
  (refine gcC hj ?_;try exact True.intro)
  (refine gfC ?_;try exact True.intro)
  rfl
 |node q l r n d ihl ihr=>
  intro N hN hok hlen
  have hsum:l.list.length+r.list.length+2≤N:=by simp only [T.list,List.length_append,List.length_cons] at hlen;omega
  have okl:=hok.1
  have okr:=hok.2.1
  have ihl:=ihl hN okl (by omega)
  have ihr:=ihr hN okr (by omega)
  obtain ⟨pl1,pl2⟩:=T.put_ok (key:=Prod.fst) (repl:=fun q p=>(q.1,p.2)) (cmp:=cmpSubj) (p:=p) okl
  obtain ⟨pr1,pr2⟩:=T.put_ok (key:=Prod.fst) (repl:=fun q p=>(q.1,p.2)) (cmp:=cmpSubj) (p:=p) okr
  have hb1:=balanceC q (putSF p l) r hN (T.ok_lim pl1 (by omega)) (T.ok_lim okr (by omega))
  have hb2:=balanceC q l (putSF p r) hN (T.ok_lim okl (by omega)) (T.ok_lim pr1 (by omega))
  have hj:=joinC (q.1,p.2) l r (N:=N) (by omega) (T.lim_sz (T.ok_lim okl (by omega))) (T.lim_sz (T.ok_lim okr (by omega)))
  clear pl1 pl2 pr1 pr2 okl okr hsum hlen hok
  refine PC.fw ?_
  rcases Classical.propComplete (cmpSubj ⟨⟨⟨p.1.goal.obj.space,p.1.goal.obj.id⟩,p.1.goal.rel⟩,⟨⟨p.1.sub.obj.space,p.1.sub.obj.id⟩,p.1.sub.rel⟩⟩ ⟨⟨⟨q.1.goal.obj.space,q.1.goal.obj.id⟩,q.1.goal.rel⟩,⟨⟨q.1.sub.obj.space,q.1.sub.obj.id⟩,q.1.sub.rel⟩⟩<0) with h1|h1
  ·have hs:putSF p (.node q l r n d)=T.balance q (putSF p l) r:=by
    show T.put _ _ _ p (.node q l r n d)=_
    rw [T.put,if_pos (of_eq_true h1)]
   rw [hs]
   clear hs
   (refine gcC (And.intro subj_ok (And.intro ihl hb1)) ?_;try exact True.intro)
   (refine gfC ?_;try exact True.intro)
  ·rcases Classical.propComplete (cmpSubj ⟨⟨⟨p.1.goal.obj.space,p.1.goal.obj.id⟩,p.1.goal.rel⟩,⟨⟨p.1.sub.obj.space,p.1.sub.obj.id⟩,p.1.sub.rel⟩⟩ ⟨⟨⟨q.1.goal.obj.space,q.1.goal.obj.id⟩,q.1.goal.rel⟩,⟨⟨q.1.sub.obj.space,q.1.sub.obj.id⟩,q.1.sub.rel⟩⟩>0) with h2|h2
   ·have hs:putSF p (.node q l r n d)=T.balance q l (putSF p r):=by
     show T.put _ _ _ p (.node q l r n d)=_
     rw [T.put,if_neg (of_eq_false h1),if_pos (of_eq_true h2)]
    rw [hs]
    clear hs
    (refine gcC (And.intro subj_ok (And.intro ihr hb2)) ?_;try exact True.intro)
    (refine gfC ?_;try exact True.intro)
   ·have hs:putSF p (.node q l r n d)=T.join (q.1,p.2) l r:=by
     show T.put _ _ _ p (.node q l r n d)=_
     rw [T.put,if_neg (of_eq_false h1),if_neg (of_eq_false h2)]
    rw [hs]
    clear hs
    (refine gcC (And.intro subj_ok hj) ?_;try exact True.intro)
    (refine gfC ?_;try exact True.intro)
theorem lenSt (x:Val) (hx:x=clS∨x=.nilf) (t:T (Tup×Unit)):PC EN 123 [.agg [x,t.v cC]] true [.int .i64 t.sz]:=by
 refine PC.fw ?_
 rcases hx with rfl|rfl
 ·(refine gcC sizeC ?_;try exact True.intro)
  (refine gfC ?_;try exact True.intro)
 ·(refine gcC sizeC ?_;try exact True.intro)
  (refine gfC ?_;try exact True.intro)
theorem PutS (m:T (Tup×Unit)) (p:(Tup×Unit)) {N:Nat} (hN:N≤100000000000000000) (hok:m.ok) (hlen:m.list.length+1≤N):PC EN 126 [.agg [clS,m.v cC],.agg [.str p.1.goal.obj.space,.str p.1.goal.obj.id,.str p.1.goal.rel,.str p.1.sub.obj.space,.str p.1.sub.obj.id,.str p.1.sub.rel],.agg []] false [.agg [clS,(putSF p m).v cC]]:=by
 have hp:=putS m p m hN hok hlen
 refine PC.fw ?_
 (refine gcC hp ?_;try exact True.intro)
 (refine gfC ?_;try exact True.intro)
theorem newS:PC EN 124 [clS] true [.agg [clS,.nilp]]:=by
 refine PC.fw ?_
 (refine gaC ?_;try exact True.intro)
 (refine gfC ?_;try exact True.intro)
end Go.V
end
section
set_option maxRecDepth 100000
set_option maxHeartbeats 4000000
namespace Go.V
structure Ordr {K:Type} (cmp:K→K→Int):Prop where
 eq: ∀ a b,cmp a b=0↔a=b
 sw: ∀ a b,cmp a b<0↔0<cmp b a
 tr: ∀ a b c,cmp a b<0→cmp b c<0→cmp a c<0
section
variable {K V:Type} {cmp:K→K→Int}
def Asc (cmp:K→K→Int) (l:List (K×V)):Prop:=l.Pairwise fun p q=>cmp p.1 q.1<0
def insL (cmp:K→K→Int) (p:K×V):List (K×V)→List (K×V)
 |[]=>[p]
 |q::r=>if cmp p.1 q.1<0 then p::q::r else if cmp p.1 q.1>0 then q::insL cmp p r else (q.1,p.2)::r
theorem insL_lt {p q:K×V} {R:List (K×V)} (h:cmp p.1 q.1<0): ∀ L:List (K×V),insL cmp p (L++q::R)=insL cmp p L++q::R
 |[]=>by simp [insL,h]
 |x::L=>by
  simp only [List.cons_append,insL]
  split
  ·rfl
  ·split
   ·rw [insL_lt h L];rfl
   ·rfl
theorem insL_gt {p:K×V} {R:List (K×V)}: ∀ {L:List (K×V)},(∀ x∈L,cmp p.1 x.1>0)→insL cmp p (L++R)=L++insL cmp p R
 |[],_=>rfl
 |x::L,h=>by
  have hx:=h x (by simp)
  simp only [List.cons_append,insL]
  rw [if_neg (by omega),if_pos hx,insL_gt fun y hy=>h y (by simp [hy])]
theorem insL_mem {p x:K×V}: ∀ {l:List (K×V)},x∈insL cmp p l→x=p∨x∈l∨(∃ q∈l,x=(q.1,p.2)∧ ¬ cmp p.1 q.1<0∧ ¬ cmp p.1 q.1>0)
 |[],h=>by simp [insL] at h;exact .inl h
 |q::r,h=>by
  simp only [insL] at h
  split at h
  ·simp at h
   rcases h with h|h|h
   ·exact .inl h
   ·exact .inr (.inl (by simp [h]))
   ·exact .inr (.inl (by simp [h]))
  ·split at h
   ·simp at h
    rcases h with h|h
    ·exact .inr (.inl (by simp [h]))
    ·rcases insL_mem h with h|h|⟨q',h1,h2⟩
     ·exact .inl h
     ·exact .inr (.inl (by simp [h]))
     ·exact .inr (.inr ⟨q',by simp [h1],h2⟩)
   ·simp at h
    rcases h with h|h
    ·exact .inr (.inr ⟨q,by simp,h,by assumption,by assumption⟩)
    ·exact .inr (.inl (by simp [h]))
theorem insL_key {p x:K×V} {l:List (K×V)} (o:Ordr cmp) (h:x∈insL cmp p l):x=p∨x∈l:=by
 rcases insL_mem h with h|h|⟨q,_,h2,h3,h4⟩
 ·exact .inl h
 ·exact .inr h
 ·left
  have:=(o.eq p.1 q.1).1 (by omega)
  rw [h2,←this]
theorem insL_asc (o:Ordr cmp) {p:K×V}: ∀ {l:List (K×V)},Asc cmp l→Asc cmp (insL cmp p l)
 |[],_=>by simp [insL,Asc]
 |q::r,h=>by
  unfold Asc at h ⊢
  rw [List.pairwise_cons] at h
  simp only [insL]
  split
  ·rename_i h1
   refine List.pairwise_cons.2 ⟨fun x hx=> ?_,List.pairwise_cons.2 h⟩
   simp at hx
   rcases hx with rfl|hx
   ·exact h1
   ·exact o.tr _ _ _ h1 (h.1 x hx)
  ·split
   ·rename_i h1 h2
    refine List.pairwise_cons.2 ⟨fun x hx=> ?_,insL_asc o h.2⟩
    rcases insL_key o hx with rfl|hx
    ·exact (o.sw _ _).2 h2
    ·exact h.1 x hx
   ·exact List.pairwise_cons.2 ⟨fun x hx=>h.1 x hx,h.2⟩
def T.ins (cmp:K→K→Int) (p:K×V) (t:T (K×V)):T (K×V):=T.put Prod.fst (fun q p=>(q.1,p.2)) cmp p t
structure T.bst (cmp:K→K→Int) (t:T (K×V)):Prop where
 ok:t.ok
 asc:Asc cmp t.list
theorem T.bst_nil:T.bst cmp (.nil :T (K×V)):=⟨trivial,List.Pairwise.nil⟩
theorem T.bst_node {q:K×V} {l r:T (K×V)} {n d:Nat} (h:T.bst cmp (.node q l r n d)):l.bst cmp∧r.bst cmp∧(∀ x∈l.list,cmp x.1 q.1<0)∧(∀ x∈r.list,cmp q.1 x.1<0):=by
 obtain ⟨h1,h2⟩:=h
 unfold Asc T.list at h2
 rw [List.pairwise_append,List.pairwise_cons] at h2
 exact ⟨⟨h1.1,h2.1⟩,⟨h1.2.1,h2.2.1.2⟩,fun x hx=>h2.2.2 x hx q (by simp),h2.2.1.1⟩
theorem T.ins_list (o:Ordr cmp) {p:K×V}: ∀ {t:T (K×V)},t.bst cmp→(T.ins cmp p t).list =insL cmp p t.list
 | .nil,_=>rfl
 | .node q l r n d,h=>by
  obtain ⟨h1,h2,h3,h4⟩:=T.bst_node h
  have il:=T.ins_list o (p:=p) h1
  have ir:=T.ins_list o (p:=p) h2
  unfold T.ins at il ir ⊢
  rw [T.put]
  have okl:=(T.put_ok (key:=Prod.fst) (repl:=fun (q p:K×V)=>(q.1,p.2)) (cmp:=cmp) (p:=p) h1.ok).1
  have okr:=(T.put_ok (key:=Prod.fst) (repl:=fun (q p:K×V)=>(q.1,p.2)) (cmp:=cmp) (p:=p) h2.ok).1
  split
  ·rename_i c
   rw [(T.balance_ok okl h2.ok).2,il,T.list,insL_lt c]
  ·rename_i c
   split
   ·rename_i c2
    rw [(T.balance_ok h1.ok okr).2,ir,T.list,insL_gt fun x hx=>(o.sw _ _).1 (o.tr _ _ _ (h3 x hx) ((o.sw _ _).2 c2))]
    rw [insL,if_neg c,if_pos c2]
   ·rename_i c2
    have e:=(o.eq p.1 q.1).1 (by omega)
    rw [T.join_list,T.list,insL_gt fun x hx=>(o.sw _ _).1 (by rw [e];exact h3 x hx),insL,if_neg c,if_neg c2]
theorem T.ins_bst (o:Ordr cmp) {p:K×V} {t:T (K×V)} (h:t.bst cmp):(T.ins cmp p t).bst cmp:=
 ⟨(T.put_ok h.ok).1,by rw [T.ins_list o h];exact insL_asc o h.asc⟩
def look [DecidableEq K] (k:K):List (K×V)→Option V
 |[]=>none
 |q::r=>if k=q.1 then some q.2 else look k r
theorem look_append [DecidableEq K] {k:K} {R:List (K×V)}: ∀ {L:List (K×V)},(∀ x∈L,k≠x.1)→look k (L++R)=look k R
 |[],_=>rfl
 |x::L,h=>by
  simp only [List.cons_append,look]
  rw [if_neg (h x (by simp)),look_append fun y hy=>h y (by simp [hy])]
theorem look_left [DecidableEq K] {k:K} {R:List (K×V)} (hR: ∀ x∈R,k≠x.1): ∀ {L:List (K×V)},look k (L++R)=look k L
 |[]=>by
  show look k R=none
  induction R with
  |nil=>rfl
  |cons x R ih=>rw [look,if_neg (hR x (by simp)),ih fun y hy=>hR y (by simp [hy])]
 |x::L=>by
  simp only [List.cons_append,look]
  rw [look_left hR]
theorem Ordr.ne_of_lt (o:Ordr cmp) {a b:K} (h:cmp a b<0):a≠b:=fun e=>by
 have:=(o.eq a b).2 e;omega
theorem T.get_look [DecidableEq K] (o:Ordr cmp) {k:K}: ∀ {t:T (K×V)},t.bst cmp→T.get cmp k t=look k t.list
 | .nil,_=>rfl
 | .node q l r n d,h=>by
  obtain ⟨h1,h2,h3,h4⟩:=T.bst_node h
  rw [T.get]
  split
  ·rename_i c
   have e:=(o.eq _ _).1 c
   rw [T.list,look_append fun x hx=>by rw [e];exact (o.ne_of_lt (h3 x hx)).symm,look,if_pos e]
  ·rename_i c
   have ne:k≠q.1:=fun e=>c ((o.eq _ _).2 e)
   split
   ·rename_i c2
    rw [T.get_look o h1,T.list,look_left]
    intro x hx
    simp at hx
    rcases hx with rfl|hx
    ·exact ne
    ·exact o.ne_of_lt (o.tr _ _ _ c2 (h4 x hx))
   ·rename_i c2
    have c3:=(o.sw q.1 k).2 (by omega)
    rw [T.get_look o h2,T.list,look_append fun x hx=>(o.ne_of_lt (o.tr _ _ _ (h3 x hx) c3)).symm,look,if_neg ne]
theorem insL_len (o:Ordr cmp) {p:K×V}: ∀ {l:List (K×V)},(∀ x∈l,p.1≠x.1)→(insL cmp p l).length =l.length+1
 |[],_=>rfl
 |q::r,h=>by
  simp only [insL]
  split
  ·rfl
  ·split
   ·have ih:=insL_len o (p:=p) (l:=r) fun x hx=>h x (List.mem_cons_of_mem _ hx)
    simp [ih]
   ·exact absurd ((o.eq _ _).1 (by omega)) (h q (by simp))
end
theorem bytesLess_tri: ∀ a b:List UInt8,(bytesLess a b=true∧bytesLess b a=false∧a≠b)∨(bytesLess a b=false∧bytesLess b a=true∧a≠b)∨(bytesLess a b=false∧bytesLess b a=false∧a=b)
 |[],[]=>by simp [bytesLess]
 |[],y::b=>by simp [bytesLess]
 |x::a,[]=>by simp [bytesLess]
 |x::a,y::b=>by
  have ih:=bytesLess_tri a b
  simp only [bytesLess]
  rcases Nat.lt_trichotomy x.toNat y.toNat with h|h|h
  ·have h1:x<y:=h
   have h2: ¬ y<x:=by show ¬ y.toNat<x.toNat;omega
   have h3:x≠y:=fun e=>by rw [e] at h;omega
   simp [h1,h2,h3,h3.symm]
  ·have h3:x=y:=UInt8.toNat_inj.1 h
   subst h3
   have h2: ¬ x<x:=by show ¬ x.toNat<x.toNat;omega
   simp only [h2,if_false]
   simpa using ih
  ·have h1:y<x:=h
   have h2: ¬ x<y:=by show ¬ x.toNat<y.toNat;omega
   have h3:x≠y:=fun e=>by rw [e] at h;omega
   simp [h1,h2,h3,h3.symm]
theorem bytesLess_tr: ∀ a b c:List UInt8,bytesLess a b=true→bytesLess b c=true→bytesLess a c=true
 |_,[],_,h,_=>by simp [bytesLess] at h
 |_,_::_,[],_,h=>by simp [bytesLess] at h
 |[],_::_,z::c,_,_=>rfl
 |x::a,y::b,z::c,h1,h2=>by
  have ih:=bytesLess_tr a b c
  simp only [bytesLess,Bool.or_eq_true,Bool.and_eq_true,decide_eq_true_eq,beq_iff_eq] at h1 h2 ⊢
  rcases h1 with h1|⟨rfl,h1⟩
  ·rcases h2 with h2|⟨rfl,h2⟩
   ·exact .inl (by have a:x.toNat<y.toNat:=h1;have b:y.toNat<z.toNat:=h2;show x.toNat<z.toNat;omega)
   ·exact .inl h1
  ·rcases h2 with h2|⟨rfl,h2⟩
   ·exact .inl h2
   ·exact .inr ⟨rfl,ih h1 h2⟩
theorem cmpBytes_ordr:Ordr cmpBytes:=by
 constructor
 ·intro a b
  unfold cmpBytes
  rcases bytesLess_tri a b with ⟨h1,h2,h3⟩|⟨h1,h2,h3⟩|⟨h1,h2,h3⟩
  ·simp [h1,h3]
  ·simp [h1,h3]
  ·subst h3;simp [h1]
 ·intro a b
  unfold cmpBytes
  rcases bytesLess_tri a b with ⟨h1,h2,h3⟩|⟨h1,h2,h3⟩|⟨h1,h2,h3⟩
  ·simp [h1,h2,h3.symm]
  ·simp [h1,h2,h3]
  ·subst h3;simp [h1]
 ·intro a b c
  have g: ∀ x y,cmpBytes x y<0↔bytesLess x y=true:=by
   intro x y
   unfold cmpBytes
   split
   ·rename_i h;simp [h]
   ·rename_i h;split<;>simp [h]
  rw [g,g,g]
  exact bytesLess_tr a b c
theorem Ordr.both {K A B:Type} {f:A→A→Int} {g:B→B→Int} (hf:Ordr f) (hg:Ordr g) {p:K→A} {q:K→B} (inj: ∀ x y,p x=p y→q x=q y→x=y):Ordr fun x y=>orI [f (p x) (p y),g (q x) (q y)]:=by
 have e: ∀ x y,orI [f (p x) (p y),g (q x) (q y)]=if f (p x) (p y)=0 then g (q x) (q y) else f (p x) (p y):=by
  intro x y
  simp only [orI]
  split
  ·split
   ·rename_i h;exact h.symm
   ·rfl
  ·rfl
 have sy: ∀ x y,f (p x) (p y)=0→f (p y) (p x)=0:=fun x y h=>(hf.eq _ _).2 ((hf.eq _ _).1 h).symm
 constructor
 ·intro x y
  rw [e]
  split
  ·rename_i h
   rw [hg.eq]
   exact ⟨fun h2=>inj _ _ ((hf.eq _ _).1 h) h2,fun h2=>by rw [h2]⟩
  ·rename_i h
   exact ⟨fun h2=>absurd h2 h,fun h2=>absurd ((hf.eq _ _).2 (by rw [h2])) h⟩
 ·intro x y
  rw [e,e]
  by_cases h:f (p x) (p y)=0
  ·rw [if_pos h,if_pos (sy _ _ h)];exact hg.sw _ _
  ·rw [if_neg h,if_neg fun h2=>h (sy _ _ h2)];exact hf.sw _ _
 ·intro x y z
  rw [e,e,e]
  by_cases h:f (p x) (p y)=0
  ·have h':=(hf.eq _ _).1 h
   rw [if_pos h,h']
   by_cases h2:f (p y) (p z)=0
   ·rw [if_pos h2,if_pos h2];exact hg.tr _ _ _
   ·rw [if_neg h2,if_neg h2];exact fun _ h3=>h3
  ·rw [if_neg h]
   by_cases h2:f (p y) (p z)=0
   ·have h':=(hf.eq _ _).1 h2
    rw [if_pos h2,←h',if_neg h];exact fun h3 _=>h3
   ·rw [if_neg h2]
    intro h3 h4
    have h5:=hf.tr _ _ _ h3 h4
    rw [if_neg (by omega)];exact h5
theorem cmpObj_ordr:Ordr cmpObj:=cmpBytes_ordr.both cmpBytes_ordr (p:=Obj.space) (q:=Obj.id) fun x y h1 h2=>by cases x;cases y;simp_all
theorem cmpGoal_ordr:Ordr cmpGoal:=cmpObj_ordr.both cmpBytes_ordr (p:=Goal.obj) (q:=Goal.rel) fun x y h1 h2=>by cases x;cases y;simp_all
theorem cmpTup_ordr:Ordr cmpTup:=cmpGoal_ordr.both cmpGoal_ordr (p:=Tup.goal) (q:=Tup.sub) fun x y h1 h2=>by cases x;cases y;simp_all
end Go.V
end
section
set_option maxRecDepth 100000
set_option maxHeartbeats 4000000
namespace Go.V
structure ST where
 z:Bool
 a:T (Tup×Unit)
 b:T (Tup×Unit)
def ST.zero:ST:=⟨true,.nil,.nil⟩
abbrev ST.c (t:ST):List Val:=[fz t.z 34,t.a.v cC,fz t.z 72,t.b.v cC]
def ST.ok (t:ST):Prop:=(t.z=true→t.a=.nil ∧t.b=.nil)∧t.a.ok∧t.b.ok∧t.a.list.length≤4096∧t.b.list.length≤4096
theorem ST.ok_zero {t:ST} (h:t.ok) (hz:t.z=true):t=.zero :=by
 obtain ⟨z,a,b⟩:=t
 obtain ⟨h1,h2⟩:=h.1 hz
 simp only at hz h1 h2
 subst hz;subst h1;subst h2;rfl
def ST.len (t:ST):Nat:=t.a.sz
def ST.has (t:ST) (x:Tup):Bool:=(T.get cmpTup x t.a).isSome
theorem lenC1 (z:Bool) (t:T (Tup×Unit)):PC EN 123 [.agg [fz z 34,t.v cC]] true [.int .i64 t.sz]:=lenC _ (by cases z<;>simp [fz]) t
theorem lenS1 (z:Bool) (t:T (Tup×Unit)):PC EN 123 [.agg [fz z 72,t.v cC]] true [.int .i64 t.sz]:=lenSt _ (by cases z<;>simp [fz]) t
theorem setLen_ok (t:ST):PC EN 70 [.agg t.c] true [.int .i64 t.len]:=by
 refine PC.fw ?_
 (refine gcC lenC1 ?_;try exact True.intro)
 (refine gfC ?_;try exact True.intro)
 rfl
theorem setHas_ok (t:ST) (ht:t.ok) (x:Tup):PC EN 69 [.agg t.c,.agg x.c] true [.bool (t.has x)]:=by
 have hl:=setLen_ok t
 refine PC.fw ?_
 by_cases h0:t.len=0
 ·have hb:((t.len:Int)==0)=true:=by simp [h0]
  have hh:t.has x=false:=by
   unfold ST.has
   have h:=T.ok_sz ht.2.1
   unfold ST.len at h0
   rw [h0] at h
   cases ha:t.a with
   |nil=>rfl
   |node p l r n d=>rw [ha] at h;simp [T.list] at h
  rw [hh]
  clear hh h0
  (refine gcC hl ?_;try exact True.intro)
  (refine gfC ?_;try exact True.intro)
 ·have hb:((t.len:Int)==0)=false:=by simpa using h0
  have hz:t.z=false:=by
   cases hz:t.z with
   |false=>rfl
   |true=>rw [ST.ok_zero ht hz] at h0;exact absurd rfl h0
  have hg:PC EN 122 [.agg [fz t.z 34,t.a.v cC],.agg x.c] false [.agg [],.bool (t.has x)]:=by
   have h:=treeC x t.a
   rw [hz]
   unfold ST.has
   cases he:T.get cmpTup x t.a<;>rw [he] at h<;>exact h
  clear hz h0
  (refine gcC (And.intro hl hg) ?_;try exact True.intro)
  (refine gfC ?_;try exact True.intro)
def ord0 {P:Type} (t:T P):T P:=if t.sz=0 then .nil else t
theorem change52 (z:Bool) (t:T (Tup×Unit)) (ht:t.ok) (hz:z=true→t=.nil) (hl:t.list.length≤4096) (x:Tup):PC EN 71 [.agg [fz z 34,t.v cC],.agg (x.c++[.bool false]),.func (.func 34) [] []] false [.agg [clC,(putCF (x,()) (ord0 t)).v cC]]:=by
 refine PC.fw ?_
 by_cases h0:t.sz=0
 ·have hb:((t.sz:Int)==0)=true:=by simp [h0]
  have ho:ord0 t=.nil :=by unfold ord0;rw [if_pos h0]
  rw [ho]
  have hp:=PutC .nil (x,()) (N:=1) (by omega) trivial (by simp [T.list])
  clear h0 ho
  (refine gcC (And.intro lenC1 (And.intro newC hp)) ?_;try exact True.intro)
  (refine gfC ?_;try exact True.intro)
 ·have hb:((t.sz:Int)==0)=false:=by simpa using h0
  have ho:ord0 t=t:=by unfold ord0;rw [if_neg h0]
  have hz:z=false:=by
   cases z with
   |false=>rfl
   |true=>rw [hz rfl] at h0;exact absurd rfl h0
  rw [ho]
  have hp:=PutC t (x,()) (N:=4097) (by omega) ht (by omega)
  subst hz
  rw [show fz false 34=clC from rfl]
  have hl1:=lenC1 false t
  rw [show fz false 34=clC from rfl] at hl1
  clear h0 ho
  (refine gcC (And.intro hl1 hp) ?_;try exact True.intro)
  (refine gfC ?_;try exact True.intro)
theorem change97 (z:Bool) (t:T (Tup×Unit)) (ht:t.ok) (hz:z=true→t=.nil) (hl:t.list.length≤4096) (x:Tup):PC EN 71 [.agg [fz z 72,t.v cC],.agg (x.c++[.bool false]),.func (.func 72) [] []] false [.agg [clS,(putSF (x,()) (ord0 t)).v cC]]:=by
 refine PC.fw ?_
 by_cases h0:t.sz=0
 ·have hb:((t.sz:Int)==0)=true:=by simp [h0]
  have ho:ord0 t=.nil :=by unfold ord0;rw [if_pos h0]
  rw [ho]
  have hp:=PutS .nil (x,()) (N:=1) (by omega) trivial (by simp [T.list])
  clear h0 ho
  (refine gcC (And.intro lenS1 (And.intro newS hp)) ?_;try exact True.intro)
  (refine gfC ?_;try exact True.intro)
 ·have hb:((t.sz:Int)==0)=false:=by simpa using h0
  have ho:ord0 t=t:=by unfold ord0;rw [if_neg h0]
  have hz:z=false:=by
   cases z with
   |false=>rfl
   |true=>rw [hz rfl] at h0;exact absurd rfl h0
  rw [ho]
  have hp:=PutS t (x,()) (N:=4097) (by omega) ht (by omega)
  subst hz
  rw [show fz false 72=clS from rfl]
  have hl1:=lenS1 false t
  rw [show fz false 72=clS from rfl] at hl1
  clear h0 ho
  (refine gcC (And.intro hl1 hp) ?_;try exact True.intro)
  (refine gfC ?_;try exact True.intro)
def ST.put (t:ST) (x:Tup):ST:=⟨false,putCF (x,()) (ord0 t.a),putSF (x,()) (ord0 t.b)⟩
def ST.with (t:ST) (x:Tup):ST×Int:=
 if tupErr x≠0 then (.zero,tupErr x) else if t.has x=true then (t,0) else if t.len=4096 then (.zero,3) else (t.put x,0)
theorem setWith_ok (t:ST) (ht:t.ok) (x:Tup):PC EN 36 [.agg t.c,.agg (x.c++[.bool false])] false [.agg (t.with x).1.c,.int .i64 (t.with x).2]:=by
 have f1:=setHas_ok t ht x
 have f2:=setLen_ok t
 have f3:=change52 t.z t.a ht.2.1 (fun h=>(ht.1 h).1) ht.2.2.2.1 x
 have f4:=change97 t.z t.b ht.2.2.1 (fun h=>(ht.1 h).2) ht.2.2.2.2 x
 refine PC.fw ?_
 unfold ST.with
 by_cases he:tupErr x=0
 ·have hb:(tupErr x==0)=true:=by simp [he]
  rw [if_neg (by simpa using he)]
  clear he
  cases hh:t.has x with
  |true=>
   rw [if_pos rfl]
   (refine gcC (And.intro tupErr_ok f1) ?_;try exact True.intro)
   (refine gfC ?_;try exact True.intro)
  |false=>
   rw [if_neg (by simp)]
   by_cases hl:t.len=4096
   ·have hb2:((t.len:Int)==4096)=true:=by simp [hl]
    rw [if_pos hl]
    clear hl
    (refine gcC (And.intro tupErr_ok (And.intro f1 f2)) ?_;try exact True.intro)
    (refine gfC ?_;try exact True.intro)
    rfl
   ·have hb2:((t.len:Int)==4096)=false:=by simp;omega
    rw [if_neg hl]
    clear hl
    (refine gcC (And.intro tupErr_ok (And.intro f1 (And.intro f2 (And.intro f3 f4)))) ?_;try exact True.intro)
    (refine gfC ?_;try exact True.intro)
    rfl
 ·have hb:(tupErr x==0)=false:=by simpa using he
  rw [if_pos he]
  clear he
  (refine gcC tupErr_ok ?_;try exact True.intro)
  (refine gfC ?_;try exact True.intro)
  rfl
end Go.V
end
section
set_option maxRecDepth 100000
set_option maxHeartbeats 4000000
namespace Go.V
def ST.all (t:ST):List Tup→ST×Int
 |[]=>(t,0)
 |x::r=>if (t.with x).2≠0 then (.zero,(t.with x).2) else ST.all (t.with x).1 r
def setOf (l:List Tup):ST×Int:=ST.all .zero l
theorem cmpSubj_ordr:Ordr cmpSubj:=cmpGoal_ordr.both cmpGoal_ordr (p:=Tup.sub) (q:=Tup.goal) fun x y h1 h2=>by cases x;cases y;simp_all
def keys (t:T (Tup×Unit)):List Tup:=t.list.map Prod.fst
structure ST.right (t:ST):Prop where
 z:t.z=true→t.a=.nil ∧t.b=.nil
 a:t.a.bst cmpTup
 b:t.b.bst cmpSubj
 same: ∀ x,x∈keys t.b↔x∈keys t.a
 n:t.b.list.length=t.a.list.length
 lim:t.a.list.length≤4096
theorem ST.right.ok {t:ST} (h:t.right):t.ok:=⟨h.z,h.a.ok,h.b.ok,h.lim,by rw [h.n];exact h.lim⟩
theorem ST.right_zero:ST.zero.right:=⟨fun _=>⟨rfl,rfl⟩,T.bst_nil,T.bst_nil,fun _=>Iff.rfl,rfl,by simp [ST.zero,T.list]⟩
theorem ST.right.len {t:ST} (h:t.right):t.len=t.a.list.length:=T.ok_sz h.a.ok
theorem look_keys {k:Tup} {l:List (Tup×Unit)}:(look k l).isSome =true↔k∈l.map Prod.fst:=by
 induction l with
 |nil=>simp [look]
 |cons q r ih=>
  simp only [look]
  split
  ·rename_i h;simp [h]
  ·rename_i h;rw [ih];simp [h]
theorem ST.right.has {t:ST} (h:t.right) (x:Tup):t.has x=true↔x∈keys t.a:=by
 unfold ST.has keys
 rw [T.get_look cmpTup_ordr h.a,look_keys]
theorem ord0_eq {t:T (Tup×Unit)} (h:t.ok):ord0 t=t:=by
 unfold ord0
 split
 ·rename_i h0
  have:=T.ok_sz h
  rw [h0] at this
  cases t with
  |nil=>rfl
  |node p l r n d=>simp [T.list] at this
 ·rfl
theorem insL_keys {cmp:Tup→Tup→Int} (o:Ordr cmp) {x:Tup}: ∀ {l:List (Tup×Unit)} {y:Tup},y∈(insL cmp (x,()) l).map Prod.fst↔y=x∨y∈l.map Prod.fst
 |[],y=>by simp [insL]
 |q::r,y=>by
  simp only [insL]
  split
  ·simp
  ·split
   ·simp only [List.map_cons,List.mem_cons,insL_keys o]
    constructor
    ·rintro (h|h|h)
     ·exact .inr (.inl h)
     ·exact .inl h
     ·exact .inr (.inr h)
    ·rintro (h|h|h)
     ·exact .inr (.inl h)
     ·exact .inl h
     ·exact .inr (.inr h)
   ·have e:=(o.eq x q.1).1 (by omega)
    simp only [List.map_cons,List.mem_cons,e]
    constructor
    ·rintro (h|h)
     ·exact .inl h
     ·exact .inr (.inr h)
    ·rintro (h|h|h)
     ·exact .inl h
     ·exact .inl h
     ·exact .inr h
theorem ST.right.put {t:ST} (h:t.right) {x:Tup} (hx:t.has x=false) (hl:t.len≠4096):(t.put x).right ∧keys (t.put x).a =(insL cmpTup (x,()) t.a.list).map Prod.fst:=by
 have hlen:=h.len
 have hlim:=h.lim
 have hnx:x ∉ keys t.a:=fun q=>by rw [(h.has x).2 q] at hx;cases hx
 have hny:x ∉ keys t.b:=fun q=>hnx ((h.same x).1 q)
 have hk: ∀ l:List (Tup×Unit),x ∉ l.map Prod.fst→ ∀ y∈l,x≠y.1:=fun l q y hy e=>q (by rw [e];exact List.mem_map_of_mem hy)
 have ea:(t.put x).a =T.ins cmpTup (x,()) t.a:=by unfold ST.put;simp only;rw [ord0_eq h.a.ok];rfl
 have eb:(t.put x).b =T.ins cmpSubj (x,()) t.b:=by unfold ST.put;simp only;rw [ord0_eq h.b.ok];rfl
 refine ⟨⟨fun q=>(by cases q),?_,?_,fun y=> ?_,?_,?_⟩,?_⟩
 ·rw [ea];exact T.ins_bst cmpTup_ordr h.a
 ·rw [eb];exact T.ins_bst cmpSubj_ordr h.b
 ·unfold keys
  rw [ea,eb,T.ins_list cmpTup_ordr h.a,T.ins_list cmpSubj_ordr h.b,insL_keys cmpTup_ordr,insL_keys cmpSubj_ordr]
  exact or_congr Iff.rfl (h.same y)
 ·rw [ea,eb,T.ins_list cmpTup_ordr h.a,T.ins_list cmpSubj_ordr h.b,insL_len cmpTup_ordr (hk _ hnx),insL_len cmpSubj_ordr (hk _ hny),h.n]
 ·rw [ea,T.ins_list cmpTup_ordr h.a,insL_len cmpTup_ordr (hk _ hnx)];omega
 ·unfold keys
  rw [ea,T.ins_list cmpTup_ordr h.a]
theorem ST.right.with {t:ST} (h:t.right) (x:Tup):(t.with x).1.right :=by
 unfold ST.with
 split
 ·exact ST.right_zero
 ·split
  ·exact h
  ·split
   ·exact ST.right_zero
   ·rename_i h1 h2
    exact (h.put (by simpa using h1) h2).1
theorem setOf_ok (l:List Tup) (x:Nat) (hl:l.length<4611686018427387904):PC EN 13 [.list (l.flatMap Tup.c) l.length x] false [.agg (setOf l).1.c,.int .i64 (setOf l).2]:=by
 refine PC.fw ?_
 unfold setOf
 (refine gaC ?_;try exact True.intro)
 refine GE.forR msP (fun s:ST=>[(2,.ptr 0 0),(4,.ptr 1 0),(9,.list (l.flatMap Tup.c) l.length x)]) (fun s=>hp 2 0 [] [(1,some (.cells s.c)),(0,some (.cells [.nilf,.nilp,.nilf,.nilp]))]) (fun i s=>s.right∧ST.all s (l.drop i)=ST.all .zero l) hl ?_ ?_ 0 .zero ⟨ST.right_zero,rfl⟩ (Nat.zero_le _) (by (refine gwC ?_;try exact True.intro)) (by simp) (by simp)
 ·intro i s hi ⟨ht,he⟩
  have hin:=flat_in (c:=Tup.c) (k:=6) (fun _=>rfl) hi
  have hat:=flat_at (c:=Tup.c) (k:=6) (fun _=>rfl) hi
  have h0:=nat0 i
  have hlt:=ltI hi
  have hwo:=setWith_ok s ht.ok l[i]
  rw [List.drop_eq_getElem_cons hi,ST.all] at he
  have hw:=ht.with l[i]
  generalize l[i]=g at*
  by_cases h1:(s.with g).2=0
  ·rw [if_neg (by simpa using h1)] at he
   rw [h1] at hwo
   clear h1 ht hl hi
   (refine gcC hwo ?_;try exact True.intro)
   exact ⟨(s.with g).1,⟨hw,he⟩,by (refine gvC ?_;try exact True.intro)⟩
  ·rw [if_pos h1] at he
   rw [←he]
   have hb:((s.with g).2==0)=false:=by simpa using h1
   clear he h1 hw ht hl hi
   (refine gcC hwo ?_;try exact True.intro)
   (refine gfC ?_;try exact True.intro)
   rfl
 ·intro s ⟨ht,he⟩
  rw [List.drop_length] at he
  replace he:ST.all .zero l=(s,0):=he.symm
  rw [he]
  clear he
  (refine gaC ?_;try exact True.intro)
  (refine gfC ?_;try exact True.intro)
end Go.V
end
section
set_option maxRecDepth 100000
set_option maxHeartbeats 4000000
namespace Go.V
def v181:VFn:=⟨18,[(4,none)],
 (.seq (.region [⟨some 3,.box (.t 1) 2,none,true,[]⟩,
  ⟨some 4,.mov (.c (.bool false)),none,true,[]⟩])
 (.seq (.seq (.region [⟨some 5, .mov (.c (.int .i64 0)), none, true, []⟩])
 (.block 0 (.loop (.seq (.seq (.region [⟨some 6,.mov (.t 5),none,true,[]⟩,
  ⟨some 7,.mov (.t 0),none,true,[]⟩,
  ⟨some 8,.lenOf (.t 7),none,true,[]⟩,
  ⟨some 9,.arith .lss (.t 6) (.t 8),none,true,[]⟩])
 (.cond (.t 9) .skip
 (.exit 0)))
 (.seq (.block 1 (.seq (.draw [⟨some 12,.mov (.t 0),none,false,[]⟩,
  ⟨some 13,.mov (.t 5),none,false,[]⟩,
  ⟨some 14,.iaddr 2 (.t 12) (.t 13),none,false,[]⟩,
  ⟨some 15,.load true 2 (.t 14),none,false,[]⟩,
  ⟨some 16,.load true 2 (.t 3),none,false,[3]⟩,
  ⟨some 17,.eql false ⟨true,[(0,.s),(1,.s)]⟩ (.t 15) (.t 16),none,true,[]⟩])
 (.cond (.t 17) (.seq (.region [⟨some 4, .mov (.c (.bool true)), none, true, []⟩])
 .ret)
 .skip)))
 (.region [⟨some 10,.mov (.t 5),none,true,[]⟩,
  ⟨some 11,.arith .add (.t 10) (.c (.int .i64 1)),none,true,[]⟩,
  ⟨some 5,.mov (.t 11),none,true,[]⟩]))))))
 (.seq (.region [⟨some 4, .mov (.c (.bool false)), none, true, []⟩])
 .ret)))⟩
theorem e181:EN.fns 181=some v181:=by kernel_rfl
def v182:VFn:=⟨24,[(4,none)],
 (.seq (.region [⟨some 2,.box (.t 0) 2,none,true,[]⟩,
  ⟨some 3,.box (.t 1) 2,none,true,[]⟩,
  ⟨some 4,.mov (.c (.bool false)),none,true,[]⟩])
 (.seq (.region [⟨some 5,.faddr 0 (.t 2),none,true,[]⟩,
  ⟨some 6,.load false 1 (.t 5),none,true,[]⟩,
  ⟨some 7,.faddr 0 (.t 3),none,true,[]⟩,
  ⟨some 8,.load false 1 (.t 7),none,true,[]⟩,
  ⟨some 9,.arith .lss (.t 6) (.t 8),none,true,[]⟩,
  ⟨some 10,.mov (.t 9),none,true,[]⟩,
  ⟨some 11,.faddr 0 (.t 2),some (10,false),true,[]⟩,
  ⟨some 12,.load false 1 (.t 11),some (10,false),true,[]⟩,
  ⟨some 13,.faddr 0 (.t 3),some (10,false),true,[]⟩,
  ⟨some 14,.load false 1 (.t 13),some (10,false),true,[]⟩,
  ⟨some 15,.eql false ⟨false,[(0,.s)]⟩ (.t 12) (.t 14),some (10,false),true,[]⟩,
  ⟨some 16,.mov (.t 15),some (10,false),true,[]⟩,
  ⟨some 17,.faddr 1 (.t 2),some (16,true),true,[]⟩,
  ⟨some 18,.load false 1 (.t 17),some (16,true),true,[]⟩,
  ⟨some 19,.faddr 1 (.t 3),some (16,true),true,[]⟩,
  ⟨some 20,.load false 1 (.t 19),some (16,true),true,[]⟩,
  ⟨some 21,.arith .lss (.t 18) (.t 20),some (16,true),true,[]⟩,
  ⟨some 22,.pick (.t 16) (.t 21) (.c (.bool false)),some (10,false),true,[]⟩,
  ⟨some 23,.pick (.t 10) (.c (.bool true)) (.t 22),none,true,[]⟩,
  ⟨some 4,.mov (.t 23),none,true,[]⟩])
 .ret))⟩
theorem e182:EN.fns 182=some v182:=by kernel_rfl
def v140:VFn:=⟨46,[(4,none)],
 (.seq (.region [⟨some 3,.box (.t 1) 2,none,true,[]⟩,
  ⟨some 4,.mov (.c .nils),none,true,[]⟩])
 (.seq (.seq (.region [⟨some 8,.mov (.t 0),none,true,[]⟩,
  ⟨some 9,.load true 2 (.t 3),none,true,[]⟩,
  ⟨some 10,.call 181 [(.t 8),(.t 9)],none,true,[]⟩])
 (.cond (.t 10) (.seq (.region [⟨some 11,.mov (.t 0),none,true,[]⟩,
  ⟨some 4,.mov (.t 11),none,true,[]⟩])
 .ret)
 .skip))
 (.seq (.region [⟨some 5, .mov (.c .nils), none, true, []⟩])
 (.seq (.region [⟨some 6, .mov (.c (.bool false)), none, true, []⟩])
 (.seq (.seq (.region [⟨some 7, .mov (.c (.int .i64 0)), none, true, []⟩])
 (.block 0 (.loop (.seq (.seq (.region [⟨some 12,.mov (.t 7),none,true,[]⟩,
  ⟨some 13,.mov (.t 0),none,true,[]⟩,
  ⟨some 14,.lenOf (.t 13),none,true,[]⟩,
  ⟨some 15,.arith .lss (.t 12) (.t 14),none,true,[]⟩])
 (.cond (.t 15) .skip
 (.exit 0)))
 (.seq (.block 1 (.seq (.seq (.draw [⟨some 18,.mov (.t 6),none,true,[]⟩,
  ⟨some 19,.un .not (.t 18),none,true,[]⟩,
  ⟨some 20,.mov (.t 19),none,true,[]⟩,
  ⟨some 21,.load true 2 (.t 3),some (20,true),false,[]⟩,
  ⟨some 22,.mov (.t 0),some (20,true),false,[3]⟩,
  ⟨some 23,.mov (.t 7),some (20,true),false,[3]⟩,
  ⟨some 24,.iaddr 2 (.t 22) (.t 23),some (20,true),false,[3]⟩,
  ⟨some 25,.load true 2 (.t 24),some (20,true),false,[3]⟩,
  ⟨some 26,.call 182 [(.t 21),(.t 25)],some (20,true),true,[]⟩,
  ⟨some 27,.pick (.t 20) (.t 26) (.c (.bool false)),none,true,[]⟩])
 (.cond (.t 27) (.seq (.region [⟨some 28,.mov (.t 5),none,true,[]⟩,
  ⟨some 29,.load true 2 (.t 3),none,true,[]⟩,
  ⟨some 30,.bslice 1 [(.str []),(.str [])] [(0,2,(.t 29))],none,true,[]⟩,
  ⟨some 31,.append 2 32 (.t 28) (.t 30),none,true,[]⟩,
  ⟨some 5,.mov (.t 31),none,true,[]⟩])
 (.region [⟨some 6,.mov (.c (.bool true)),none,true,[]⟩]))
 .skip))
 (.region [⟨some 32,.mov (.t 5),none,true,[]⟩,
  ⟨some 33,.mov (.t 0),none,true,[]⟩,
  ⟨some 34,.mov (.t 7),none,true,[]⟩,
  ⟨some 35,.iaddr 2 (.t 33) (.t 34),none,true,[]⟩,
  ⟨some 36,.load true 2 (.t 35),none,true,[]⟩,
  ⟨some 37,.bslice 1 [(.str []),(.str [])] [(0,2,(.t 36))],none,true,[]⟩,
  ⟨some 38,.append 2 32 (.t 32) (.t 37),none,true,[]⟩,
  ⟨some 5,.mov (.t 38),none,true,[]⟩])))
 (.region [⟨some 16,.mov (.t 7),none,true,[]⟩,
  ⟨some 17,.arith .add (.t 16) (.c (.int .i64 1)),none,true,[]⟩,
  ⟨some 7,.mov (.t 17),none,true,[]⟩]))))))
 (.seq (.seq (.region [⟨some 39,.mov (.t 6),none,true,[]⟩,
  ⟨some 40,.un .not (.t 39),none,true,[]⟩])
 (.cond (.t 40) (.region [⟨some 41,.mov (.t 5),none,true,[]⟩,
  ⟨some 42,.load true 2 (.t 3),none,true,[]⟩,
  ⟨some 43,.bslice 1 [(.str []),(.str [])] [(0,2,(.t 42))],none,true,[]⟩,
  ⟨some 44,.append 2 32 (.t 41) (.t 43),none,true,[]⟩,
  ⟨some 5,.mov (.t 44),none,true,[]⟩])
 .skip))
 (.seq (.region [⟨some 45,.mov (.t 5),none,true,[]⟩,
  ⟨some 4,.mov (.t 45),none,true,[]⟩])
 .ret)))))))⟩
theorem e140:EN.fns 140=some v140:=by kernel_rfl
theorem has_ok (l:List Obj) (m:Mk) (t:Obj) (hl:l.length<1000000000):PC EN 181 [lv l m,.agg (Cl.c t)] true [.bool (decide (t∈l))]:=by
 refine PC.fn (vf:=v181) e181 ?_ (Nat.le_of_ble_eq_true rfl) rfl;unfold v181
 generalize hR:decide (t∈l)=R
 (refine gaC ?_;try exact True.intro)
 refine GE.rWC (fun i:Nat=>[(5,.int .i64 (i:Int)),(3,.ptr 0 0),(0,lv l m)]) (fun i:Nat=>hp 1 0 [] [(0,some (.cells (Cl.c t)))]) (fun i:Nat=>i≤l.length∧decide (t∈l.drop i)=R) (fun i:Nat=>l.length - i) (0) ?_ ?_
 ·exact ⟨Nat.zero_le _,hR⟩
 clear hR
 intro i ⟨hi,he⟩
 by_cases h:i<l.length
 ·rw [List.drop_eq_getElem_cons h] at he
  have nz_i:=nat0 i;have lt_i:=ltI h;have nth_i:=nth_eq h;have wr_i:=wrap1 (i:=i) (by omega);generalize (l)[i]=x at*
  have hd:=obj_dec x t
  by_cases hx:x=t
  ·rw [decide_eq_true (by simp [hx])] at he
   rw [decide_eq_true hx] at hd
   subst he
   clear hx hl hi
   (refine gaC ?_;try exact True.intro)
   (refine gfC ?_;try exact True.intro)
  ·rw [decide_eq_false hx] at hd
   have HH:Hold ((i+1≤l.length∧decide (t∈l.drop (i+1))=R)∧l.length - (i+1)<l.length - i):=⟨⟨by omega,by rw [←he];simp [Ne.symm hx]⟩,by omega⟩
   clear hx hl hi he
   (refine gaC ?_;try exact True.intro)
   exact round_normal (i+1) HH.out.1 HH.out.2 (Weak.rnC (M:=1) [])
 ·have hlt:=ltI' h
  rw [List.drop_eq_nil_of_le (by omega)] at he
  simp at he
  subst he
  clear hl hi
  (refine gaC ?_;try exact True.intro)
  (refine gfC ?_;try exact True.intro)
def lessO (a b:Obj):Bool:=bytesLess a.space b.space||(a.space==b.space&&bytesLess a.id b.id)
theorem lessO_ok (a b:Obj):PC EN 182 [.agg (Cl.c a),.agg (Cl.c b)] true [.bool (lessO a b)]:=by
 refine PC.fn (vf:=v182) e182 ?_ (Nat.le_of_ble_eq_true rfl) rfl;unfold v182
 unfold lessO
 generalize hb1:bytesLess a.space b.space=b1 at*
 generalize hb2:(a.space==b.space)=b2 at*
 cases b1
 ·cases b2
  ·(refine gaC ?_;try exact True.intro)
   (refine gfC ?_;try exact True.intro)
  ·(refine gaC ?_;try exact True.intro)
   (refine gfC ?_;try exact True.intro)
 ·(refine gaC ?_;try exact True.intro)
  (refine gfC ?_;try exact True.intro)
def insO (x:Obj) (b:Bool):List Obj→List Obj
 |[]=>if b then [] else [x]
 |y::r=>if b=false∧lessO x y=true then x::y::insO x true r else y::insO x b r
def putO (l:List Obj) (x:Obj):List Obj:=if x∈l then l else insO x false l
theorem insO_len (x:Obj): ∀ (b:Bool) (l:List Obj),(insO x b l).length ≤l.length+1
 |b,[]=>by unfold insO;split<;>simp
 |b,y::r=>by
  unfold insO;split
  ·rename_i h
   have h1: ∀ r,(insO x true r).length =r.length:=by
    intro r
    induction r with
    |nil=>rfl
    |cons z r ih=>rw [insO,if_neg (by simp),List.length_cons,ih];rfl
   simp [h1]
  ·have:=insO_len x b r
   simp;omega
theorem put_ok (l:List Obj) (x:Obj) (hl:l.length<1000000):PC EN 140 [lv l mS,.agg (Cl.c x)] false [lv (putO l x) mS]:=by
 have hh:=has_ok l mS x (by omega)
 refine PC.fnF (vf:=v140) e140 ?_ (Nat.le_of_ble_eq_true rfl) rfl;unfold v140
 unfold putO
 have hlen:=insO_len x false l
 by_cases hm:x∈l
 ·rw [if_pos hm]
  rw [decide_eq_true hm] at hh
  clear hm
  (refine gcC hh ?_;try exact True.intro)
  (refine gFC ?_;try exact True.intro)
 ·rw [if_neg hm]
  rw [decide_eq_false hm] at hh
  generalize hR:insO x false l=R at*
  clear hm
  (refine gcC hh ?_;try exact True.intro)
  refine GE.rWC (fun q:Nat×List Obj×Bool=>[(7,.int .i64 (q.1:Int)),(5,bv 1 (q.2.1).length 2),(6,.bool q.2.2),(3,.ptr 0 0),(0,lv l mS)]) (fun q:Nat×List Obj×Bool=>hp 2 0 [] [(1,bb (q.2.1).length (fl (q.2.1))),(0,some (.cells (Cl.c x)))]) (fun q:Nat×List Obj×Bool=>q.1≤l.length∧q.2.1++insO x q.2.2 (l.drop q.1)=R∧(q.2.2=false→q.2.1.length=q.1)∧(q.2.2=true→q.2.1.length=q.1+1)) (fun q:Nat×List Obj×Bool=>l.length - q.1) ((0,[],false)) ?_ ?_
  ·exact ⟨Nat.zero_le _,hR,fun _=>rfl,fun h=>(by cases h)⟩
  clear hR hh
  rintro ⟨i,A,b⟩ ⟨hi,he,g1,g2⟩
  simp only at hi he g1 g2
  by_cases h:i<l.length
  ·rw [List.drop_eq_getElem_cons h,insO] at he
   have nz_i:=nat0 i;have lt_i:=ltI h;have nth_i:=nth_eq h;have wr_i:=wrap1 (i:=i) (by omega);generalize (l)[i]=y at*
   have hls:=lessO_ok x y
   have e4:A.length+1+1≤1000000000:=by cases b<;>simp_all<;>omega
   have m1:=mb (k:=32) (n:=A.length+1) (by omega)
   have m2:=mb1 (n:=A.length+1) (by omega)
   have m3:=mb (k:=32) e4
   have m4:=mb1 e4
   cases b
   ·replace g1:=g1 rfl
    generalize lessO x y=c at*
    cases c
    ·rw [if_neg (by simp)] at he
     have HH:Hold ((i+1≤l.length∧(A++[y])++insO x false (l.drop (i+1))=R∧(false=false→(A++[y]).length =i+1)∧(false=true→(A++[y]).length =i+1+1))∧l.length - (i+1)<l.length - i):=⟨⟨h,by rw [←he];simp,fun _=>by simp;omega,fun q=>(by cases q)⟩,by omega⟩
     clear he hi hl hlen e4 g1 g2
     (refine gcC hls ?_;try exact True.intro)
     exact round_normal (i+1,A++[y],false) HH.out.1 HH.out.2 (Weak.rnC (M:=1) [3])
    ·rw [if_pos (by simp)] at he
     have HH:Hold ((i+1≤l.length∧(A++[x]++[y])++insO x true (l.drop (i+1))=R∧(true=false→(A++[x]++[y]).length =i+1)∧(true=true→(A++[x]++[y]).length =i+1+1))∧l.length - (i+1)<l.length - i):=⟨⟨h,by rw [←he];simp,fun q=>(by cases q),fun _=>by simp;omega⟩,by omega⟩
     have hfl:fl A++[Val.str x.space,Val.str x.id]=fl (A++[x]):=by rw [fl_append,fl_one,c_obj]
     have hln:A.length+1=(A++[x]).length :=by simp
     rw [hln] at m1 m2 m3 m4
     clear he hi hl hlen e4 g1 g2
     (refine gcC hls ?_;try exact True.intro)
     clear hfl hln
     exact round_normal (i+1,A++[x]++[y],true) HH.out.1 HH.out.2 (Weak.rnC (M:=1) [5])
   ·replace g2:=g2 rfl
    rw [if_neg (by simp)] at he
    have HH:Hold ((i+1≤l.length∧(A++[y])++insO x true (l.drop (i+1))=R∧(true=false→(A++[y]).length =i+1)∧(true=true→(A++[y]).length =i+1+1))∧l.length - (i+1)<l.length - i):=⟨⟨h,by rw [←he];simp,fun q=>(by cases q),fun _=>by simp;omega⟩,by omega⟩
    clear he hi hl hlen e4 g1 g2
    (refine gcC hls ?_;try exact True.intro)
    exact round_normal (i+1,A++[y],true) HH.out.1 HH.out.2 (Weak.rnC (M:=1) [3])
  ·have hlt:=ltI' h
   rw [List.drop_eq_nil_of_le (by omega),insO] at he
   have e4:A.length+1≤1000000000:=by cases b<;>simp_all<;>omega
   have m1:=mb (k:=32) e4
   have m2:=mb1 e4
   cases b
   ·simp at he
    have hfl:fl A++[Val.str x.space,Val.str x.id]=fl (A++[x]):=by rw [fl_append,fl_one,c_obj]
    have hln:A.length+1=(A++[x]).length :=by simp
    rw [hln] at m1 m2
    subst he
    clear hi hl hlen e4 g1 g2
    (refine gaC ?_;try exact True.intro)
    (refine gFC ?_;try exact True.intro)
   ·simp at he
    subst he
    clear hi hl hlen e4 g1 g2
    (refine gaC ?_;try exact True.intro)
    (refine gFC ?_;try exact True.intro)
end Go.V
end
section
namespace Go.V
noncomputable section
def VC.asg:VC→List Nat
 | .region l| .draw l=>dsts l
 | .seq a b| .cond _ a b=>a.asg++b.asg
 | .block _ a| .loop a=>a.asg
 |_=>[]
theorem setDst_other {fr:List Val} {d:Option Nat} {v:Val} {t:Nat} (h:d≠some t):(setDst fr d v).getD t .undef =fr.getD t .undef :=by
 cases d with
 |none=>rfl
 |some d=>
  have:d≠t:=fun e=>h (by rw [e])
  simp [setDst,List.getD_eq_getElem?_getD,this]
theorem runOps_frame {m:TypeId→Val→String→Option (FuncId×Val)} {c:CallT}: ∀ (l:List VOper) (fr fr1:List Val) (h h1:Heap),runOps m c l fr h=some (fr1,h1)→ ∀ t,t ∉ dsts l→fr1.getD t .undef =fr.getD t .undef
 |[],fr,fr1,h,h1,e,t,_=>by
  simp only [runOps,Option.some.injEq,Prod.mk.injEq] at e
  rw [e.1]
 |o::r,fr,fr1,h,h1,e,t,ht=>by
  rw [dsts_cons,not_or] at ht
  simp only [runOps] at e
  split at e
  ·cases e
  ·rw [runOps_frame r _ _ _ _ e t ht.2,setDst_other ht.1]
  ·split at e
   ·rw [runOps_frame r _ _ _ _ e t ht.2,setDst_other ht.1]
   ·cases e
theorem runDraw_frame {m:TypeId→Val→String→Option (FuncId×Val)} {c:CallT} {all:List VOper}: ∀ (l:List VOper) (rs:List (Nat×Nat)) (fr fr1:List Val) (h h1:Heap),runDraw m c all l rs fr h=some (fr1,h1)→ ∀ t,t ∉ dsts l→fr1.getD t .undef =fr.getD t .undef
 |[],rs,fr,fr1,h,h1,e,t,_=>by
  simp only [runDraw,Option.some.injEq,Prod.mk.injEq] at e
  rw [e.1]
 |o::r,rs,fr,fr1,h,h1,e,t,ht=>by
  rw [dsts_cons,not_or] at ht
  have key: ∀ v rs' h',runDraw m c all r rs' (setDst fr o.dst v) h'=some (fr1,h1)→fr1.getD t .undef =fr.getD t .undef :=fun v rs' h' q=>by
   rw [runDraw_frame r _ _ _ _ _ q t ht.2,setDst_other ht.1]
  simp only [runDraw] at e
  split at e
  ·cases e
  ·exact key _ _ _ e
  ·split at e
   ·split at e
    ·exact key _ _ _ e
    ·cases e
   ·split at e
    ·split at e
     ·exact key _ _ _ e
     ·cases e
    ·split at e
     ·cases e
     ·split at e
      ·split at e
       ·exact key _ _ _ e
       ·cases e
      ·cases e
theorem exec_frame {E:Env}: ∀ (n:Nat) (c:VC) (fr:List Val) (h:Heap) (ex:Ex) (fr1:List Val) (h1:Heap),exec E n c fr h=some (ex,fr1,h1)→ ∀ t,t ∉ c.asg→fr1.getD t .undef =fr.getD t .undef
 |0,c,fr,h,ex,fr1,h1,e=>by simp [exec] at e
 |n+1,c,fr,h,ex,fr1,h1,e=>by
  intro t ht
  have ih:=exec_frame (E:=E) n
  cases c<;>simp only [exec] at e
  case skip=>cases e;rfl
  case ret=>cases e;rfl
  case exit=>cases e;rfl
  case region l=>
   split at e
   ·rename_i q
    cases e
    exact runOps_frame _ _ _ _ _ q t ht
   ·cases e
  case draw l=>
   split at e
   ·rename_i q
    cases e
    exact runDraw_frame _ _ _ _ _ _ q t ht
   ·cases e
  case seq a b=>
   simp only [VC.asg,List.mem_append,not_or] at ht
   split at e
   ·rename_i q
    rw [ih b _ _ _ _ _ e t ht.2,ih a _ _ _ _ _ q t ht.1]
   ·exact ih a _ _ _ _ _ e t ht.1
  case cond x a b=>
   simp only [VC.asg,List.mem_append,not_or] at ht
   split at e
   ·exact ih a _ _ _ _ _ e t ht.1
   ·exact ih b _ _ _ _ _ e t ht.2
   ·cases e
  case block i a=>
   split at e
   ·rename_i q
    split at e<;>(cases e;exact ih a _ _ _ _ _ q t ht)
   ·exact ih a _ _ _ _ _ e t ht
  case loop a=>
   split at e
   ·rename_i q
    rw [ih (.loop a) _ _ _ _ _ e t ht,ih a _ _ _ _ _ q t ht]
   ·exact ih a _ _ _ _ _ e t ht
  case range=>
   split at e
   ·split at e
    ·split at e
     ·unfold endRange at e
      split at e<;>(cases e;try rfl)
     ·cases e
    ·cases e
   ·cases e
def sqN:Nat→VC→VC→VC
 |m+1,.seq x a,b=>.seq x (sqN m a b)
 |_,a,b=>.seq a b
theorem exec_sqN {E:Env}: ∀ (k:Nat) (a b:VC) (n:Nat) (fr:List Val) (h:Heap) (fr1:List Val) (h1:Heap),exec E n a fr h=some (.normal,fr1,h1)→ ∀ (m:Nat) (r:Ex×List Val×Heap),exec E m b fr1 h1=some r→ ∃ j,exec E j (sqN k a b) fr h=some r:=by
 have plain: ∀ (a b:VC) (n:Nat) (fr:List Val) (h:Heap) (fr1:List Val) (h1:Heap),exec E n a fr h=some (.normal,fr1,h1)→ ∀ (m:Nat) (r:Ex×List Val×Heap),exec E m b fr1 h1=some r→ ∃ j,exec E j (.seq a b) fr h=some r:=by
  intro a b n fr h fr1 h1 e1 m r e2
  obtain ⟨ex,fr2,h2⟩:=r
  refine ⟨max n m+1,?_⟩
  rw [exec,exec_mono (Nat.le_max_left n m) _ _ _ _ e1]
  exact exec_mono (Nat.le_max_right n m) _ _ _ _ e2
 intro k
 induction k with
 |zero=>exact fun a b n fr h fr1 h1 e1 m r e2=>plain a b n fr h fr1 h1 e1 m r e2
 |succ k ih=>
  intro a b n fr h fr1 h1 e1 m r e2
  cases a with
  |seq x a'=>
   cases n with
   |zero=>simp [exec] at e1
   |succ n=>
    simp only [exec] at e1
    split at e1
    ·rename_i f' h' q
     obtain ⟨j,hj⟩:=ih a' b n f' h' fr1 h1 e1 m r e2
     obtain ⟨ex,fr2,h2⟩:=r
     refine ⟨max n j+1,?_⟩
     show exec E (max n j+1) (.seq x (sqN k a' b)) fr h=_
     rw [exec,exec_mono (Nat.le_max_left n j) _ _ _ _ q]
     exact exec_mono (Nat.le_max_right n j) _ _ _ _ hj
    ·rename_i q
     exact absurd e1 (q _ _)
  |_=>exact plain _ b n fr h fr1 h1 e1 m r e2
theorem HR.aside {p h h1:Heap} {F:Nat→Prop} {σ:Sg} (hr:HR p h F σ) (keep: ∀ b,b<h.next→h1.t.get b=h.t.get b) (he:HExt h h1) (hh: ∀ b,h1.next≤b→h1.hidden b=false) (hf:h1.floor≤h1.next):Sim p h F σ p h1 F σ:=by
 have hid: ∀ b,h1.hidden b=h.hidden b:=fun b=>by unfold Heap.hidden;rw [he.hid]
 have fx:Fix h h1 F F:=⟨fun _ x=>x,fun b hb=>keep b (hr.fro b hb),fun b _ q=>by rw [hid];exact q⟩
 refine ⟨⟨?_,?_,hr.inj,?_,?_,?_,?_,hr.plow,hh,hf⟩,.refl _,fx,fun b hb _=>keep b hb,fun _ x=>.inl x,fun _ _ x=>.inl x,.refl _,he,fun a b e=>(hr.dom a b e).1⟩
 ·intro b k hk
  obtain ⟨c,k',g1,g2,g3⟩:=hr.blk b k hk
  exact ⟨c,k',g1,by rw [keep _ (hr.dom _ _ g1).2];exact g2,g3⟩
 ·intro b k hk
  obtain ⟨c,k',g1,g2,g3⟩:=hr.rel b k hk
  exact ⟨c,k',g1,Heap.get_of (by rw [keep _ (hr.dom _ _ g1).2];exact Heap.get_t g2) (by rw [hid];exact Heap.get_nh g2),g3.mono fx (.refl _)⟩
 ·intro b c e
  have:=hr.dom b c e
  exact ⟨this.1,Nat.lt_of_lt_of_le this.2 he.next⟩
 ·intro b c e q
  rw [hid];exact hr.vis b c e q
 ·intro b c e q
  rw [he.floor];exact hr.flo b c e q
 ·intro b q
  exact Nat.lt_of_lt_of_le (hr.fro b q) he.next
theorem lfV_rv {h h1:Heap} {F F1:Nat→Prop} {σ σ1:Sg} {v x:Val} (e:lfV true v=true) (r:Rv h F σ v x):Rv h1 F1 σ1 v x:=by
 cases v<;>first
  |(cases e;done)
  |(simp only [Rv] at r ⊢;done)
  |(simp only [Rv] at r ⊢;exact r)
def scL (K:List Nat) (env:List (Nat×Val)):(List (Nat×Val)→AN)→AN:=List.rec (motive:=fun _=>(List (Nat×Val)→AN)→AN) (fun k=>k []) (fun t _ ih k=>(fun v=>Bool.rec (motive:=fun _=>AN) .no (ih (fun r=>k ((t,v)::r))) (lfV true v)) (lkF t env)) K
theorem scL_inv {env:List (Nat×Val)}: ∀ (K:List Nat) {k:List (Nat×Val)→AN},scL K env k≠.no →scL K env k=k (zipE K env)∧ ∀ t∈K,lfV true (lk t env)=true
 |[],k,_=>⟨rfl,fun t h=>by cases h⟩
 |t::K,k,h=>by
  have e0:scL (t::K) env k=Bool.rec (motive:=fun _=>AN) .no (scL K env (fun r=>k ((t,lkF t env)::r))) (lfV true (lkF t env)):=rfl
  rw [e0] at h ⊢
  rw [lkF_eq] at h ⊢
  cases e:lfV true (lk t env) with
  |false=>rw [e] at h;exact absurd rfl h
  |true=>
   rw [e] at h
   obtain ⟨h1,h2⟩:=scL_inv K (show scL K env (fun r=>k ((t,lk t env)::r))≠.no from h)
   refine ⟨h1,fun u hu=> ?_⟩
   rcases List.mem_cons.1 hu with rfl|hu
   ·exact e
   ·exact h2 u hu
end
end Go.V
end
section
namespace Go.V
noncomputable section
def cutN:Nat→VC→VC×VC
 |m+1,.seq x y=>(.seq x (cutN m y).1,(cutN m y).2)
 |_,.seq x y=>(x,y)
 |_,c=>(c,.skip)
def isCut:Nat→VC→Bool
 |m+1,.seq _ y=>isCut m y
 |0,.seq _ _=>true
 |_,_=>false
theorem sqN_cut: ∀ (m:Nat) (c:VC),isCut m c=true→sqN m (cutN m c).1 (cutN m c).2=c
 |0,c,h=>by
  cases c with
  |seq x y=>rfl
  |_=>cases h
 |m+1,c,h=>by
  cases c with
  |seq x y=>
   have ih:=sqN_cut m y h
   show VC.seq x (sqN m (cutN m y).1 (cutN m y).2)=_
   rw [ih]
  |_=>cases h
theorem SimE.sqN {E:Env} {a b:VC} {k:Nat} {fr fr1 fr2:List Val} {p p1 p2:Heap} {ex:Ex} (w:SimE E a fr p .normal fr1 p1) (w2:SimE E b fr1 p1 ex fr2 p2):SimE E (V.sqN k a b) fr p ex fr2 p2:=by
 intro h F σ fr' ha hb
 obtain ⟨n,fr1',h1,F1,σ1,e1,s1,r1⟩:=w h F σ fr' ha hb
 obtain ⟨m,fr2',h2,F2,σ2,e2,s2,r2⟩:=w2 h1 F1 σ1 fr1' s1.hr r1
 obtain ⟨j,hj⟩:=exec_sqN k a b n fr' h fr1' h1 e1 m _ e2
 exact ⟨j,fr2',h2,F2,σ2,hj,s1.trans s2,r2⟩
def segX (N:Nat) (L K A:List Nat) (env:List (Nat×Val)) (p:Heap) (run:List (Nat×Val)→(Ex→List (Nat×Val)→Heap→AN)→AN) (k:List (Nat×Val)→AN):AN:=ifS (subB K A) (resK p false (evsE N env (L.map Opd.t)) (fun q _=>psL L q [] (fun envq=>run envq (fun ex env1 _=>Ex.rec (motive:=fun _=>AN) (scL K env1 (fun r=>k (apE r (killE A env)))) n1 .no ex))))
theorem seg_ok {E:Env} {T:List Ce} {N fu:Nat} {L K:List Nat} {c:AC} {env:List (Nat×Val)} {p:Heap} {k:List (Nat×Val)→AN} (hm:MethSim E.meth) (hT:TOk E T) (ho:c.ok=true)
  (hA: ∀ t,t ∉ c.asg→t ∉ c.vc.asg) (h:segX N L K c.asg env p (fun envq kk=>X E.meth T N fu c envq heapK kk) k≠.no):
  ∃ env2,segX N L K c.asg env p (fun envq kk=>X E.meth T N fu c envq heapK kk) k=k env2∧SimE E c.vc (V.mk N env) p .normal (V.mk N env2) p:=by
 unfold segX at h ⊢
 obtain ⟨h1,h2⟩:=ifS_inv h
 rw [h2] at h ⊢
 have hsub:=subB_spec h1
 obtain ⟨q,u,h3,h4⟩:=resK_inv h
 rw [h4] at h ⊢
 obtain ⟨envq,h5,_,_,h8⟩:=psL_agree L q [] h
 rw [h5] at h ⊢
 have h0:X E.meth T N fu c envq heapK (fun ex env1 _=>Ex.rec (motive:=fun _=>AN) (scL K env1 (fun r=>k (apE r (killE c.asg env)))) n1 .no ex)≠.no :=h
 show ∃ env2,X E.meth T N fu c envq heapK (fun ex env1 _=>Ex.rec (motive:=fun _=>AN) (scL K env1 (fun r=>k (apE r (killE c.asg env)))) n1 .no ex)=k env2∧_
 clear h
 obtain ⟨ex,env1,p1,_,e1,s1⟩:=X_ok hm hT c ho h0
 rw [e1] at h0 ⊢
 cases ex with
 |exit i=>exact absurd rfl h0
 |ret=>exact absurd rfl h0
 |normal=>
 have h:=h0
 have h':scL K env1 (fun r=>k (apE r (killE c.asg env)))≠.no :=h
 show ∃ env2,scL K env1 (fun r=>k (apE r (killE c.asg env)))=k env2∧_
 obtain ⟨h9,h10⟩:=scL_inv K h'
 rw [h9]
 refine ⟨_,rfl,fun hh F σ fr' hr hf=> ?_⟩
 rw [evsE_eq] at h3
 have hrl:=resL_rel (resV_rel hr deep) _ _ q u h3 (hf.evs (xs:=L.map Opd.t) (by simp [Opd.ok]))
 let F2:Nat→Prop:=fun b=>F b∨ ∃ a∈u,σ a=some b
 have hr2:HR heapK hh F2 (fun _=>none):=by
  show HR heapO hh F2 (fun _=>none)
  refine ⟨fun b k e=>(by rw [heapO_t] at e;cases e),fun b k e=>(by have e':=Heap.get_t e;rw [heapO_t] at e';cases e'),fun a b c e=>(by cases e),fun b b' e=>(by cases e),fun b b' e=>(by cases e),fun b b' e=>(by cases e),?_,fun b _=>heapO_t b,hr.hhid,hr.hflo⟩
  rintro b (hb|⟨a,_,hs⟩)
  ·exact hr.fro b hb
  ·exact (hr.dom _ _ hs).2
 have ha2:Rs hh F2 (fun _=>none) q (V.evs fr' (L.map Opd.t)):=hrl.2 F2 (fun _ b hb=>.inl hb) fun i hi b hs=>.inr ⟨i,hi,hs⟩
 have hlen:fr'.length=N:=by rw [hf.length,mk_length]
 have hjunk:Rs hh F2 (fun _=>none) (V.mk N []) fr':=by
  refine .of_getD (by rw [hlen,mk_length]) fun t=> ?_
  by_cases ht:t<N
  ·rw [mk_getD ht];simp only [lk,Rv]
  ·have e1:(V.mk N []).getD t .undef =.undef :=by simp [V.mk,List.getD_eq_getElem?_getD,ht]
   have e2:fr'.getD t .undef =.undef :=by rw [List.getD_eq_getElem?_getD,List.getElem?_eq_none (by omega)];rfl
   rw [e1,e2];simp only [Rv]
 have hq:Rs hh F2 (fun _=>none) (V.mk N envq) fr':=by
  have:=setAllR L ha2 hjunk
  rw [setAll_self,h8] at this
  exact this
 obtain ⟨n,fr1',hh1,F1,σ1,x1,t1,r1⟩:=s1 hh F2 _ fr' hr2 hq
 have keep: ∀ b,b<hh.next→hh1.t.get b=hh.t.get b:=fun b hb=>t1.own b hb (fun a e=>by cases e)
 refine ⟨n,fr1',hh1,F,σ,x1,hr.aside keep t1.he t1.hr.hhid t1.hr.hflo,.of_getD (by rw [r1.length,mk_length,mk_length]) fun t=> ?_⟩
 have hfx:=hr.aside keep t1.he t1.hr.hhid t1.hr.hflo
 by_cases ht:t<N
 ·rw [mk_getD ht,apE_eq,lk_app,zip_keys,lk_kill]
  by_cases hk:t∈K
  ·rw [if_pos hk,lk_zip K env1 hk]
   have:=r1.getD t
   rw [mk_getD ht] at this
   exact lfV_rv (h10 t hk) this
  ·rw [if_neg hk]
   by_cases hc:t∈c.asg
   ·rw [if_pos hc];simp only [Rv]
   ·rw [if_neg hc,exec_frame n c.vc fr' hh _ fr1' hh1 x1 t (hA t hc)]
    have:=(hfx.rs hf).getD t
    rw [mk_getD ht] at this
    exact this
 ·have e1:(V.mk N (apE (zipE K env1) (killE c.asg env))).getD t .undef =.undef :=by simp [V.mk,List.getD_eq_getElem?_getD,ht]
  have e2:fr1'.getD t .undef =.undef :=by rw [List.getD_eq_getElem?_getD,List.getElem?_eq_none (by rw [r1.length,mk_length];omega)];rfl
  rw [e1,e2];simp only [Rv]
def noW (c:AC):Bool:=c.vc.asg.all fun t=>memB t c.asg
theorem noW_spec {c:AC} (h:noW c=true) (t:Nat) (ht:t ∉ c.asg):t ∉ c.vc.asg:=fun q=>ht ((memB_iff t _).1 (List.all_eq_true.1 h t q))
theorem FO.sg {E:Env} {f:FuncId} {vf:VFn} {T:List Ce} {fu np:Nat} {F:FT} (hm:MethSim E.meth) (hT:TOk E T) (hf:E.fns f=some vf) (hp:E.prims f=none) (m1 m2:Nat) (L K:List Nat) (hcut:isCut m1 vf.body=true) (hcut2:isCut m2 (cutN m1 vf.body).2=true) (ca cs cb:AC) (hca:ca.vc=(cutN m1 vf.body).1) (hcs:cs.vc=(cutN m2 (cutN m1 vf.body).2).1) (hcb:cb.vc=(cutN m2 (cutN m1 vf.body).2).2)
  (ho:(ca.ok&&(cs.ok&&(cb.ok&&noW cs)))=true) (hn:np≤vf.ntmps)
  (hF: ∀ p args k,F p args k=agX np 0 args (fun env=>X E.meth T vf.ntmps fu ca env p (fun ex env1 p1=>Ex.rec (motive:=fun _=>AN) (segX vf.ntmps L K cs.asg env1 p1 (fun envq kk=>X E.meth T vf.ntmps fu cs envq heapK kk) (fun env2=>X E.meth T vf.ntmps fu cb env2 p1 (endX vf.ntmps vf.results k))) n1 .no ex))):FO E f F:=by
 intro p args k h
 simp only [Bool.and_eq_true] at ho
 rw [hF] at h ⊢
 obtain ⟨h1,h2⟩:=agX_inv np 0 args h
 rw [h2] at h ⊢
 obtain ⟨ex0,env1,p1,_,e0,s0⟩:=X_ok hm hT ca ho.1 h
 rw [e0] at h ⊢
 cases ex0 with
 |exit i=>exact absurd rfl h
 |ret=>exact absurd rfl h
 |normal=>
 have h':segX vf.ntmps L K cs.asg env1 p1 (fun envq kk=>X E.meth T vf.ntmps fu cs envq heapK kk) (fun env2=>X E.meth T vf.ntmps fu cb env2 p1 (endX vf.ntmps vf.results k))≠.no :=h
 show ∃ v p',segX vf.ntmps L K cs.asg env1 p1 (fun envq kk=>X E.meth T vf.ntmps fu cs envq heapK kk) (fun env2=>X E.meth T vf.ntmps fu cb env2 p1 (endX vf.ntmps vf.results k))=k v p'∧_
 obtain ⟨env2,e1,s1⟩:=seg_ok hm hT ho.2.1 (noW_spec ho.2.2.2) h'
 rw [e1] at h' ⊢
 obtain ⟨ex,env',p',_,e,s2⟩:=X_ok hm hT cb ho.2.2.1 h'
 rw [e] at h' ⊢
 rw [hca] at s0
 rw [hcs] at s1
 rw [hcb] at s2
 have s:SimE E vf.body (V.mk vf.ntmps (argsL 0 args)) p ex (V.mk vf.ntmps env') p':=by
  have q2:=SimE.sqN (k:=m2) s1 s2
  rw [sqN_cut m2 _ hcut2] at q2
  have q1:=SimE.sqN (k:=m1) s0 q2
  rw [sqN_cut m1 _ hcut] at q1
  exact q1
 have fin: ∀ l,(∀ i,ex≠.exit i)→readResults (V.mk vf.ntmps env') p' vf.results=some l→SimC E f args p (resultOf l) p':=by
  intro l hne hl h F' σ args' hr ha
  obtain ⟨n,fr2',h2,F2,σ2,e2,s2,r2⟩:=s h F' σ _ hr (ha.enter (by omega))
  obtain ⟨l',hl',rl⟩:=readResultsR s2.hr r2 vf.results hl
  exact ⟨n,_,h2,F2,σ2,callF_of hp hf e2 hne hl',s2,resultOfR rl⟩
 cases ex with
 |exit i=>exact absurd rfl h'
 |normal=>
  have h3:rdX vf.ntmps vf.results env' p' (fun l=>k l p')≠.no :=h'
  obtain ⟨l,h3,h4⟩:=rdX_inv _ h3
  exact ⟨l,p',h4,fin l (fun i q=>by cases q) h3⟩
 |ret=>
  have h3:rdX vf.ntmps vf.results env' p' (fun l=>k l p')≠.no :=h'
  obtain ⟨l,h3,h4⟩:=rdX_inv _ h3
  exact ⟨l,p',h4,fin l (fun i q=>by cases q) h3⟩
end
end Go.V
end
section
set_option maxRecDepth 100000
namespace Go.V
open Go.Proofs
noncomputable section
noncomputable def c1 (f m1:Nat):VC:=(cutN m1 (vv f).body).1
noncomputable def c2 (f m1 m2:Nat):VC:=(cutN m2 (cutN m1 (vv f).body).2).1
noncomputable def c3 (f m1 m2:Nat):VC:=(cutN m2 (cutN m1 (vv f).body).2).2
noncomputable def okG (f np m1 m2:Nat) (n1 n2 n3:Nts):Bool:=(fnP prog NF f).isSome &&(isCut m1 (vv f).body &&(isCut m2 (cutN m1 (vv f).body).2&&(((ann (c1 f m1) n1).1.ok &&((ann (c2 f m1 m2) n2).1.ok &&((ann (c3 f m1 m2) n3).1.ok &&noW (ann (c2 f m1 m2) n2).1)))&&Nat.ble np (vv f).ntmps)))
theorem fg {f:Nat} (np m1 m2:Nat) (L K:List Nat) {T:List Ce} {F:FT} (hT:TOk EN T) (n1' n2' n3':Nts) (h:okG f np m1 m2 n1' n2' n3'=true)
  (hF: ∀ p args k,F p args k=agX np 0 args (fun env=>X EN.meth T (vv f).ntmps fuel (ann (c1 f m1) n1').1 env p (fun ex env1 p1=>Ex.rec (motive:=fun _=>AN) (segX (vv f).ntmps L K (ann (c2 f m1 m2) n2').1.asg env1 p1 (fun envq kk=>X EN.meth T (vv f).ntmps fuel (ann (c2 f m1 m2) n2').1 envq heapK kk) (fun env2=>X EN.meth T (vv f).ntmps fuel (ann (c3 f m1 m2) n3').1 env2 p1 (endX (vv f).ntmps (vv f).results k))) n1 .no ex))):FO EN f F:=by
 simp only [okG,Bool.and_eq_true] at h
 obtain ⟨h1,h2,h3,⟨h4,h5,h6,h7⟩,h8⟩:=h
 exact FO.sg msP hT (some_getD h1) rfl m1 m2 L K h2 h3 _ _ _ (ann_vc _ _) (ann_vc _ _) (ann_vc _ _) (Bool.and_eq_true_iff.2 ⟨h4,Bool.and_eq_true_iff.2 ⟨h5,Bool.and_eq_true_iff.2 ⟨h6,h7⟩⟩⟩) (Nat.le_of_ble_eq_true h8) hF
end
end Go.V
end
section
set_option maxRecDepth 100000
namespace Go.V
noncomputable section
def stK (v:Val) (k:Str→AN):AN:=match v with
 | .str s=>k s
 |_=>.no
theorem stK_inv {v:Val} {k:Str→AN} (h:stK v k≠.no): ∃ s,v=.str s:=by
 cases v<;>first|exact ⟨_,rfl⟩|exact absurd rfl h
def obK (v:Val) (k:Obj→AN):AN:=match v with
 | .agg [.str s,.str t]=>k ⟨s,t⟩
 |_=>.no
theorem obK_inv {v:Val} {k:Obj→AN} (h:obK v k≠.no): ∃ x:Obj,v=.agg (Cl.c x)∧obK v k=k x:=by
 unfold obK at h ⊢
 split at h
 ·exact ⟨⟨_,_⟩,rfl,rfl⟩
 ·exact absurd rfl h
def lsK (v:Val) (k:List Val→Nat→AN):AN:=match v with
 | .nils =>k [] (nat_lit 0)
 | .list c n x=>Bool.rec (motive:=fun _=>AN) .no (Bool.rec (motive:=fun _=>AN) .no (k c n) (Nat.ble (nat_lit 1) n)) (Nat.beq x (nat_lit 4))
 |_=>.no
theorem lsK_inv {v:Val} {k:List Val→Nat→AN} (h:lsK v k≠.no): ∃ c n,lsK v k=k c n∧((v=.nils ∧c=[]∧n=0)∨(v=.list c n 4∧1≤n)):=by
 unfold lsK at h ⊢
 split at h
 ·exact ⟨_,_,rfl,.inl ⟨rfl,rfl,rfl⟩⟩
 ·rename_i c n x
  rw [beq_rec,ble_rec] at h
  split at h
  ·rename_i hx
   split at h
   ·rename_i hn
    refine ⟨c,n,?_,.inr ⟨by rw [hx],hn⟩⟩
    simp only
    rw [beq_rec,ble_rec,if_pos hx,if_pos hn]
   ·exact absurd rfl h
  ·exact absurd rfl h
 ·exact absurd rfl h
def decF (c:List Val):Option Str→(List Obj→Nat→AN)→AN:=List.rec (motive:=fun _=>Option Str→(List Obj→Nat→AN)→AN) (fun o k=>Option.rec (motive:=fun _=>AN) (k [] (nat_lit 0)) (fun _=>.no) o) (fun v _ ih o k=>stK v fun b=>Option.rec (motive:=fun _=>AN) (ih (some b) k) (fun a=>ih none (fun l n=>k (⟨a,b⟩::l) (Nat.succ n))) o) c
def preO:Option Str→List Val
 |none=>[]
 |some a=>[.str a]
theorem decF_inv: ∀ (c:List Val) (o:Option Str) (k:List Obj→Nat→AN),decF c o k≠.no → ∃ l,decF c o k=k l l.length∧preO o++c=fl l
 |[],none,k,_=>⟨[],rfl,rfl⟩
 |[],some _,k,h=>absurd rfl h
 |v::r,none,k,h=>by
  obtain ⟨b,rfl⟩:=stK_inv h
  obtain ⟨l,h1,h2⟩:=decF_inv r (some b) k h
  exact ⟨l,h1,h2⟩
 |v::r,some a,k,h=>by
  obtain ⟨b,rfl⟩:=stK_inv h
  obtain ⟨l,h1,h2⟩:=decF_inv r none (fun l n=>k (⟨a,b⟩::l) (Nat.succ n)) h
  refine ⟨⟨a,b⟩::l,h1,?_⟩
  rw [fl_cons,←h2]
  rfl
def eqO (x y:Obj):Bool:=Bool.rec (motive:=fun _=>Bool) false (beqB x.space y.space) (beqB x.id y.id)
theorem eqO_eq (x y:Obj):eqO x y=decide (x=y):=by
 unfold eqO
 rw [beqB_eq,beqB_eq,←obj_dec]
 cases x.id==y.id<;>cases x.space==y.space<;>rfl
def hasF (x:Obj) (l:List Obj):Bool:=List.rec (motive:=fun _=>Bool) false (fun y _ ih=>Bool.rec (motive:=fun _=>Bool) ih true (eqO x y)) l
theorem hasF_eq (x:Obj): ∀ l:List Obj,hasF x l=decide (x∈l)
 |[]=>by simp [hasF]
 |y::l=>by
  have ih:=hasF_eq x l
  show Bool.rec (motive:=fun _=>Bool) (hasF x l) true (eqO x y)=_
  rw [eqO_eq,ih]
  by_cases h:x=y
  ·simp [h]
  ·simp [h]
def lessF (x y:Obj):Bool:=Bool.rec (motive:=fun _=>Bool) (Bool.rec (motive:=fun _=>Bool) false (ltB x.id y.id) (beqB x.space y.space)) true (ltB x.space y.space)
theorem lessF_eq (x y:Obj):lessF x y=lessO x y:=by
 unfold lessF lessO
 rw [beqB_eq,ltB_eq,ltB_eq]
 cases bytesLess x.space y.space<;>cases x.space==y.space<;>rfl
theorem insO_true (x:Obj): ∀ l:List Obj,insO x true l=l
 |[]=>rfl
 |y::l=>by rw [insO,if_neg (by simp),insO_true x l]
def insF (x:Obj) (l:List Obj):(List Obj→AN)→AN:=List.rec (motive:=fun _=>(List Obj→AN)→AN) (fun k=>k [x]) (fun y r ih k=>Bool.rec (motive:=fun _=>AN) (ih (fun t=>k (y::t))) (k (x::y::r)) (lessF x y)) l
theorem insF_eq (x:Obj): ∀ (l:List Obj) (k:List Obj→AN),insF x l k=k (insO x false l)
 |[],k=>rfl
 |y::l,k=>by
  have ih:=insF_eq x l (fun t=>k (y::t))
  show Bool.rec (motive:=fun _=>AN) (insF x l (fun t=>k (y::t))) (k (x::y::l)) (lessF x y)=_
  rw [ih,lessF_eq,insO,insO_true]
  cases lessO x y<;>simp
def encF (l:List Obj):(List Val→AN)→AN:=List.rec (motive:=fun _=>(List Val→AN)→AN) (fun k=>k []) (fun y _ ih k=>Obj.rec (motive:=fun _=>AN) (fun a b=>ih (fun t=>k (.str a::.str b::t))) y) l
theorem encF_eq: ∀ (l:List Obj) (k:List Val→AN),encF l k=k (fl l)
 |[],_=>rfl
 |y::l,k=>encF_eq l (fun t=>k (.str y.space::.str y.id::t))
def putA (a:List Val) (k:Val→AN):AN:=hd a fun v s=>hd s fun w t=>nl t<|lsK v fun c n=>obK w fun x=>decF c none fun l m=>Bool.rec (motive:=fun _=>AN) .no (Bool.rec (motive:=fun _=>AN) .no (Bool.rec (motive:=fun _=>AN) (insF x l fun l'=>encF l' fun c'=>natK (Nat.succ n) fun n'=>k (.list c' n' (nat_lit 4))) (k v) (hasF x l)) (Nat.ble n (nat_lit 999999))) (Nat.beq m n)
theorem insO_ne (x:Obj) (l:List Obj):insO x false l≠[]:=by
 cases l with
 |nil=>simp [insO]
 |cons y l=>rw [insO];split<;>simp
theorem insO_succ (x:Obj): ∀ l:List Obj,(insO x false l).length =l.length+1
 |[]=>rfl
 |y::l=>by
  rw [insO]
  split
  ·rw [insO_true];rfl
  ·rw [List.length_cons,insO_succ x l];rfl
theorem lv_list {l:List Obj} (h:l≠[]):lv l mS=.list (fl l) l.length 4:=by
 unfold lv
 rw [if_neg (fun q=>h q.2)]
 rfl
theorem putA_inv {a:List Val} {k:Val→AN} (h:putA a k≠.no): ∃ (l:List Obj) (x:Obj),a=[lv l mS,.agg (Cl.c x)]∧l.length<1000000∧putA a k=k (lv (putO l x) mS):=by
 unfold putA at h ⊢
 match a,h with
 |[v,w],h=>
  simp only [hd,nl] at h ⊢
  obtain ⟨c,n,h1,h2⟩:=lsK_inv h
  rw [h1] at h ⊢
  obtain ⟨x,rfl,h3⟩:=obK_inv h
  rw [h3] at h ⊢
  obtain ⟨l,h4,h5⟩:=decF_inv _ _ _ h
  rw [h4] at h ⊢
  simp only [beq_rec,ble_rec] at h ⊢
  by_cases e1:l.length=n
  ·rw [if_pos e1] at h ⊢
   by_cases e2:n≤999999
   ·rw [if_pos e2] at h ⊢
    have hv:v=lv l mS:=by
     rcases h2 with ⟨rfl,rfl,rfl⟩|⟨rfl,hn⟩
     ·have:l=[]:=List.length_eq_zero_iff.1 e1
      subst this
      exact lv_nilS.symm
     ·have:l≠[]:=by intro q;subst q;simp at e1;omega
      rw [lv_list this,←h5,e1];rfl
    refine ⟨l,x,by rw [hv],by omega,?_⟩
    rw [hasF_eq,putO]
    by_cases e3:x∈l
    ·rw [if_pos e3,decide_eq_true e3,hv]
    ·rw [if_neg e3,decide_eq_false e3]
     simp only [insF_eq,encF_eq,natK_eq]
     rw [lv_list (insO_ne x l),insO_succ,e1]
   ·rw [if_neg e2] at h;exact absurd rfl h
  ·rw [if_neg e1] at h;exact absurd rfl h
 |[],h=>exact absurd rfl h
 |[_],h=>exact absurd rfl h
 |_::_::_::_,h=>exact absurd rfl h
def c140:CK:=fun p args k=>resK p false args (fun a u=>putA a (fun v=>otcK false [v] p u k))
theorem c140_ok:CallOk EN 140 c140:=by
 intro p args k h
 unfold c140 at h ⊢
 obtain ⟨a,u,h1,h2⟩:=resK_inv h
 rw [h2] at h ⊢
 obtain ⟨l,x,rfl,hl,h3⟩:=putA_inv h
 rw [h3] at h ⊢
 obtain ⟨v,q',h7,h8⟩:=otcK_inv h
 exact ⟨v,q',h8,fun h F' σ args' hr ha=>(put_ok l x hl).sim hr ha h1 h7⟩
end
end Go.V
end
section
set_option maxRecDepth 100000
namespace Go.V
noncomputable section
def fiveK (o:List Str) (k0:AN) (k:Str→Str→Str→Str→Str→AN):AN:=match o with
 |[e,d,c,b,a]=>k a b c d e
 |_=>k0
def decT (c:List Val):List Str→(List Tup→Nat→AN)→AN:=List.rec (motive:=fun _=>List Str→(List Tup→Nat→AN)→AN) (fun o k=>List.rec (motive:=fun _=>AN) (k [] (nat_lit 0)) (fun _ _ _=>.no) o) (fun v _ ih o k=>stK v fun f=>fiveK o (ih (f::o) k) (fun a b c d e=>ih [] (fun l n=>k (⟨⟨⟨a,b⟩,c⟩,⟨⟨d,e⟩,f⟩⟩::l) (Nat.succ n)))) c
theorem fiveK_eq {o:List Str} {k0:AN} {k:Str→Str→Str→Str→Str→AN}:(∃ a b c d e,o=[e,d,c,b,a]∧fiveK o k0 k=k a b c d e)∨fiveK o k0 k=k0:=by
 unfold fiveK
 split
 ·exact .inl ⟨_,_,_,_,_,rfl,rfl⟩
 ·exact .inr rfl
theorem decT_inv: ∀ (c:List Val) (o:List Str) (k:List Tup→Nat→AN),decT c o k≠.no → ∃ l,decT c o k=k l l.length∧o.reverse.map .str ++c=l.flatMap Tup.c
 |[],[],k,_=>⟨[],rfl,rfl⟩
 |[],_::_,k,h=>absurd rfl h
 |v::r,o,k,h=>by
  obtain ⟨f,rfl⟩:=stK_inv h
  have e0:decT (.str f::r) o k=fiveK o (decT r (f::o) k) (fun a b c d e=>decT r [] (fun l n=>k (⟨⟨⟨a,b⟩,c⟩,⟨⟨d,e⟩,f⟩⟩::l) (Nat.succ n))):=rfl
  rw [e0] at h ⊢
  rcases fiveK_eq (o:=o) (k0:=decT r (f::o) k) (k:=fun a b c d e=>decT r [] (fun l n=>k (⟨⟨⟨a,b⟩,c⟩,⟨⟨d,e⟩,f⟩⟩::l) (Nat.succ n))) with ⟨a,b,c,d,e,rfl,q⟩|q
  ·rw [q] at h ⊢
   obtain ⟨l,h1,h2⟩:=decT_inv r [] _ h
   refine ⟨⟨⟨⟨a,b⟩,c⟩,⟨⟨d,e⟩,f⟩⟩::l,h1,?_⟩
   rw [List.flatMap_cons,←h2]
   rfl
  ·rw [q] at h ⊢
   obtain ⟨l,h1,h2⟩:=decT_inv r (f::o) _ h
   refine ⟨l,h1,?_⟩
   rw [←h2]
   simp
def encU (p:Tup×Unit) (k:Str→Str→Str→Str→Str→Str→AN):AN:=Prod.rec (motive:=fun _=>AN) (fun t _=>Tup.rec (motive:=fun _=>AN) (fun g s=>Goal.rec (motive:=fun _=>AN) (fun x c=>Obj.rec (motive:=fun _=>AN) (fun a b=>Goal.rec (motive:=fun _=>AN) (fun y f=>Obj.rec (motive:=fun _=>AN) (fun d e=>k a b c d e f) y) s) x) g) t) p
theorem encU_eq (p:Tup×Unit) (k:Str→Str→Str→Str→Str→Str→AN):encU p k=k p.1.goal.obj.space p.1.goal.obj.id p.1.goal.rel p.1.sub.obj.space p.1.sub.obj.id p.1.sub.rel:=rfl
def encT (t:T (Tup×Unit)):(Val→AN)→AN:=T.rec (motive:=fun _=>(Val→AN)→AN) (fun k=>k .nilp) (fun p _ _ n d ihl ihr k=>ihl fun vl=>ihr fun vr=>natK n fun n=>natK d fun d=>encU p fun a b c x y z=>k (.ref [.str a,.str b,.str c,.str x,.str y,.str z,vl,vr,.int .i64 (.ofNat n),.int .i64 (.ofNat d)] (nat_lit 0))) t
theorem encT_eq: ∀ (t:T (Tup×Unit)) (k:Val→AN),encT t k=k (t.v cC)
 | .nil,_=>rfl
 | .node p l r n d,k=>by
  have e0:encT (.node p l r n d) k=encT l fun vl=>encT r fun vr=>natK n fun n=>natK d fun d=>encU p fun a b c x y z=>k (.ref [.str a,.str b,.str c,.str x,.str y,.str z,vl,vr,.int .i64 (.ofNat n),.int .i64 (.ofNat d)] (nat_lit 0)):=rfl
  rw [e0,encT_eq l]
  simp only [encT_eq r,natK_eq,encU_eq]
  rfl
def encS (t:ST) (k:Val→AN):AN:=ST.rec (motive:=fun _=>AN) (fun z a b=>encT a fun va=>encT b fun vb=>Bool.rec (motive:=fun _=>AN) (k (.agg [.func (.func (nat_lit 34)) [] [],va,.func (.func (nat_lit 72)) [] [],vb])) (k (.agg [.nilf,va,.nilf,vb])) z) t
theorem encS_eq (t:ST) (k:Val→AN):encS t k=k (.agg t.c):=by
 obtain ⟨z,a,b⟩:=t
 have e0:encS ⟨z,a,b⟩ k=encT a fun va=>encT b fun vb=>Bool.rec (motive:=fun _=>AN) (k (.agg [.func (.func (nat_lit 34)) [] [],va,.func (.func (nat_lit 72)) [] [],vb])) (k (.agg [.nilf,va,.nilf,vb])) z:=rfl
 rw [e0,encT_eq,encT_eq]
 cases z<;>rfl
def errK (e:Int) (k:Int→AN):AN:=Int.rec (motive:=fun _=>AN) (fun n=>natK n fun n=>k (.ofNat n)) (fun _=>.no) e
theorem errK_inv {e:Int} {k:Int→AN} (h:errK e k≠.no):errK e k=k e:=by
 cases e with
 |ofNat n=>show natK n (fun n=>k (.ofNat n))=_;rw [natK_eq]
 |negSucc n=>exact absurd rfl h
def setA (a : List Val) (k : Val → AN) : AN := hd a fun v s => nl s <| (match v with
  | .list c n _=>decT c [] fun l m=>Bool.rec (motive:=fun _=>AN) .no (Bool.rec (motive:=fun _=>AN) .no (Prod.rec (motive:=fun _=>AN) (fun st e=>encS st fun w=>errK e fun e=>k (.tup [w,.int .i64 e])) (setOf l)) (Nat.ble n (nat_lit 1000000))) (Nat.beq m n)
  |_=>.no)
theorem setA_inv {a:List Val} {k:Val→AN} (h:setA a k≠.no): ∃ (l:List Tup) (x:Nat),a=[.list (l.flatMap Tup.c) l.length x]∧l.length≤1000000∧setA a k=k (.tup [.agg (setOf l).1.c,.int .i64 (setOf l).2]):=by
 unfold setA at h ⊢
 match a,h with
 |[v],h=>
  simp only [hd,nl] at h ⊢
  split at h
  ·rename_i c n x
   obtain ⟨l,h1,h2⟩:=decT_inv c [] _ h
   rw [h1] at h ⊢
   simp only [beq_rec,ble_rec] at h ⊢
   by_cases e1:l.length=n
   ·rw [if_pos e1] at h ⊢
    by_cases e2:n≤1000000
    ·rw [if_pos e2] at h ⊢
     refine ⟨l,x,?_,by omega,?_⟩
     ·rw [e1,←h2];rfl
     ·rw [encS_eq] at h ⊢
      exact errK_inv h
    ·rw [if_neg e2] at h;exact absurd rfl h
   ·rw [if_neg e1] at h;exact absurd rfl h
  ·exact absurd rfl h
 |[],h=>exact absurd rfl h
 |_::_::_,h=>exact absurd rfl h
def c13:CK:=fun p args k=>setA args (fun v=>k v p)
theorem c13_ok:CallOk EN 13 c13:=by
 intro p args k h
 unfold c13 at h ⊢
 obtain ⟨l,x,rfl,hl,h1⟩:=setA_inv h
 exact ⟨_,p,h1,fun h F' σ args' hr ha=>(setOf_ok l x (by omega)).sim hr ha rfl rfl⟩
end
end Go.V
end
section
set_option maxRecDepth 100000
set_option maxHeartbeats 4000000
namespace Go.V
def cmpO (a b c d:Str):Int:=orI [cmpBytes a c,cmpBytes b d]
def cmpG (a b e c d f:Str):Int:=orI [cmpO a b c d,cmpBytes e f]
noncomputable section
def tpK (v:Val) (k:Str→Str→Str→Str→Str→Str→AN):AN:=match v with
 | .agg [.str a,.str b,.str c,.str d,.str e,.str f]=>k a b c d e f
 |_=>.no
theorem tpK_inv {v:Val} {k:Str→Str→Str→Str→Str→Str→AN} (h:tpK v k≠.no): ∃ a b c d e f:Str,v=.agg [.str a,.str b,.str c,.str d,.str e,.str f]∧tpK v k=k a b c d e f:=by
 unfold tpK at h ⊢
 split at h
 ·exact ⟨_,_,_,_,_,_,rfl,rfl⟩
 ·exact absurd rfl h
def cmpC (a b:Str) (x:AN) (k:Val→AN):AN:=Bool.rec (motive:=fun _=>AN) (Bool.rec (motive:=fun _=>AN) (k (.int .i64 (.ofNat (nat_lit 1)))) (k (.int .i64 (.negSucc (nat_lit 0)))) (ltB a b)) x (beqB a b)
theorem less_irr: ∀ a:Str,bytesLess a a=false
 |[]=>rfl
 |x::r=>by
  have:=less_irr r
  simp [bytesLess,this]
theorem cmpC_eq (a b:Str) (x:AN) (k:Val→AN):cmpC a b x k=if cmpBytes a b=0 then x else k (.int .i64 (cmpBytes a b)):=by
 unfold cmpC cmpBytes
 rw [ltB_eq,beqB_eq]
 by_cases h:a=b
 ·subst h;simp [less_irr]
 ·have e:(a==b)=false:=by simpa using h
  rw [e]
  cases bytesLess a b<;>simp
theorem or6 (a b c d e f:Int):orI [orI [orI [a,b],c],orI [orI [d,e],f]]=orI [a,b,c,d,e,f]:=by
 by_cases h1:a=0<;>by_cases h2:b=0<;>by_cases h3:c=0<;>by_cases h4:d=0<;>by_cases h5:e=0<;>by_cases h6:f=0<;>simp [orI,h1,h2,h3,h4,h5,h6]
theorem or_step (x:Int) (r:List Int) (k:Val→AN):(if x=0 then k (.int .i64 (orI r)) else k (.int .i64 x))=k (.int .i64 (orI (x::r))):=by
 rw [orI];split<;>rfl
def cmpA (a:List Val) (k:Val→AN):AN:=hd a fun v s=>hd s fun w t=>nl t<|tpK v fun a1 a2 a3 a4 a5 a6=>tpK w fun b1 b2 b3 b4 b5 b6=>cmpC a1 b1 (cmpC a2 b2 (cmpC a3 b3 (cmpC a4 b4 (cmpC a5 b5 (cmpC a6 b6 (k (.int .i64 (.ofNat (nat_lit 0)))) k) k) k) k) k) k
theorem cmpA_inv {a:List Val} {k:Val→AN} (h:cmpA a k≠.no): ∃ a1 a2 a3 a4 a5 a6 b1 b2 b3 b4 b5 b6:Str,a=[.agg [.str a1,.str a2,.str a3,.str a4,.str a5,.str a6],.agg [.str b1,.str b2,.str b3,.str b4,.str b5,.str b6]]∧cmpA a k=k (.int .i64 (orI [cmpG a1 a2 a3 b1 b2 b3,cmpG a4 a5 a6 b4 b5 b6])):=by
 unfold cmpA at h ⊢
 match a,h with
 |[v,w],h=>
  simp only [hd,nl] at h ⊢
  obtain ⟨a1,a2,a3,a4,a5,a6,rfl,h1⟩:=tpK_inv h
  rw [h1] at h ⊢
  obtain ⟨b1,b2,b3,b4,b5,b6,rfl,h2⟩:=tpK_inv h
  rw [h2]
  refine ⟨a1,a2,a3,a4,a5,a6,b1,b2,b3,b4,b5,b6,rfl,?_⟩
  unfold cmpG cmpO
  rw [or6]
  simp only [cmpC_eq]
  simp only [←or_step]
  rfl
 |[],h=>exact absurd rfl h
 |[_],h=>exact absurd rfl h
 |_::_::_::_,h=>exact absurd rfl h
def c34:CK:=fun p args k=>cmpA args (fun v=>k v p)
theorem c34_ok:CallOk EN 34 c34:=by
 intro p args k h
 unfold c34 at h ⊢
 obtain ⟨a1,a2,a3,a4,a5,a6,b1,b2,b3,b4,b5,b6,rfl,h1⟩:=cmpA_inv h
 exact ⟨_,p,h1,fun h F' σ args' hr ha=>(cmpTup_ok _ _ _ _ _ _ _ _ _ _ _ _).sim hr ha rfl rfl⟩
end
end Go.V
end
section
set_option maxRecDepth 100000
namespace Go.V
noncomputable section
def q0:List Val:=[.nils]
def q1:List Val:=[(.str []),(.str [])]
def q2:Val:=(.str [117,115,101,114])
def q3:List Val:=[(.int .u8 (.ofNat (nat_lit 0))),(.str []),(.str []),.nils]
def q4:Val:=(.int .u8 (.ofNat (nat_lit 1)))
def q5:Val:=(.int .u8 (.ofNat (nat_lit 2)))
def q6:Val:=(.str [111,119,110,101,114])
def q7:Val:=(.int .u8 (.ofNat (nat_lit 3)))
def q8:Val:=(.str [112,97,114,101,110,116])
def q9:Val:=(.str [118,105,101,119,101,114])
def q10:List Val:=[(.int .u8 (.ofNat (nat_lit 0))),(.str []),(.str []),.nils,(.int .u8 (.ofNat (nat_lit 0))),(.str []),(.str []),.nils,(.int .u8 (.ofNat (nat_lit 0))),(.str []),(.str []),.nils]
def q11:Val:=(.int .u8 (.ofNat (nat_lit 4)))
def q12:Val:=(.str [98,97,110,110,101,100])
def q13:List Val:=[(.int .u8 (.ofNat (nat_lit 0))),(.str []),(.str []),.nils,(.int .u8 (.ofNat (nat_lit 0))),(.str []),(.str []),.nils]
def q14:Val:=(.int .u8 (.ofNat (nat_lit 6)))
def q15:Val:=(.str [102,111,108,100,101,114])
def q16:List Val:=[(.str []),.nils,(.int .u8 (.ofNat (nat_lit 0))),(.str []),(.str []),.nils]
def q17:Val:=(.str [103,114,111,117,112])
def q18:Val:=(.str [109,101,109,98,101,114])
def q19:List Val:=[(.str []),(.str []),(.str []),(.str [])]
def q20:List Val:=[(.str []),.nils,(.int .u8 (.ofNat (nat_lit 0))),(.str []),(.str []),.nils,(.str []),.nils,(.int .u8 (.ofNat (nat_lit 0))),(.str []),(.str []),.nils,(.str []),.nils,(.int .u8 (.ofNat (nat_lit 0))),(.str []),(.str []),.nils,(.str []),.nils,(.int .u8 (.ofNat (nat_lit 0))),(.str []),(.str []),.nils]
def q21:List Val:=[(.str []),.nils]
def q22:Val:=(.str [100,111,99])
def q23:List Val:=[(.str []),.nils,(.str []),.nils,(.str []),.nils,(.str []),.nils]
def q24:Val:=(.str [120])
def q25:List Val:=[(.str []),(.str []),(.str [])]
def q26:Val:=(.str [102])
def q27:List Val:=[(.str []),(.str []),(.str []),(.str []),(.str []),(.str [])]
def q28:Val:=(.str [97])
def q29:Val:=(.str [103])
def q30:Val:=(.str [98])
def q31:List Val:=[(.str []),(.str []),(.str []),(.str []),(.str []),(.str []),(.str []),(.str []),(.str []),(.str []),(.str []),(.str []),(.str []),(.str []),(.str []),(.str []),(.str []),(.str []),(.str []),(.str []),(.str []),(.str []),(.str []),(.str [])]
def q32:Val:=(.int .i64 (.ofNat (nat_lit 0)))
def q33:Val:=(.int .u64 (.ofNat (nat_lit 4294967296)))
def q34:Val:=(.int .u64 (.ofNat (nat_lit 32)))
def q35:Val:=(.int .i64 (.ofNat (nat_lit 32)))
def q36:Val:=(.int .u64 (.ofNat (nat_lit 65536)))
def q37:Val:=(.int .u64 (.ofNat (nat_lit 16)))
def q38:Val:=(.int .i64 (.ofNat (nat_lit 16)))
def q39:Val:=(.int .u64 (.ofNat (nat_lit 256)))
def q40:Val:=(.int .u64 (.ofNat (nat_lit 8)))
def q41:Val:=(.int .i64 (.ofNat (nat_lit 8)))
def q42:Val:=(.str [0,1,2,2,3,3,3,3,4,4,4,4,4,4,4,4,5,5,5,5,5,5,5,5,5,5,5,5,5,5,5,5,6,6,6,6,6,6,6,6,6,6,6,6,6,6,6,6,6,6,6,6,6,6,6,6,6,6,6,6,6,6,6,6,7,7,7,7,7,7,7,7,7,7,7,7,7,7,7,7,7,7,7,7,7,7,7,7,7,7,7,7,7,7,7,7,7,7,7,7,7,7,7,7,7,7,7,7,7,7,7,7,7,7,7,7,7,7,7,7,7,7,7,7,7,7,7,7,8,8,8,8,8,8,8,8,8,8,8,8,8,8,8,8,8,8,8,8,8,8,8,8,8,8,8,8,8,8,8,8,8,8,8,8,8,8,8,8,8,8,8,8,8,8,8,8,8,8,8,8,8,8,8,8,8,8,8,8,8,8,8,8,8,8,8,8,8,8,8,8,8,8,8,8,8,8,8,8,8,8,8,8,8,8,8,8,8,8,8,8,8,8,8,8,8,8,8,8,8,8,8,8,8,8,8,8,8,8,8,8,8,8,8,8,8,8,8,8,8,8,8,8,8,8,8,8])
def q43:Val:=(.bool false)
def q44:Val:=(.int .i64 (.ofNat (nat_lit 1)))
def q45:List Val:=[(.int .i64 (.ofNat (nat_lit 0))),(.int .i64 (.ofNat (nat_lit 0)))]
def q46:List Val:=[(.int .i64 (.ofNat (nat_lit 0)))]
def q47:Val:=(.int .i64 (.ofNat (nat_lit 4)))
def q48:Val:=(.int .i64 (.ofNat (nat_lit 2)))
def q49:Val:=(.int .i64 (.ofNat (nat_lit 3)))
def q50:Val:=(.int .i64 (.ofNat (nat_lit 50)))
def q51:Val:=(.int .i64 (.ofNat (nat_lit 12)))
def q52:Val:=(.int .i64 (.ofNat (nat_lit 5)))
def q53:Val:=(.bool true)
def q54:Val:=(.func (.func 34) [] [])
def q55:Val:=(.int .i64 (.ofNat (nat_lit 6)))
def q56:Val:=(.int .u8 (.ofNat (nat_lit 97)))
def q57:Val:=(.int .u8 (.ofNat (nat_lit 122)))
def q58:Val:=(.int .u8 (.ofNat (nat_lit 48)))
def q59:Val:=(.int .u8 (.ofNat (nat_lit 57)))
def q60:Val:=(.str [])
def q63:Val:=(.int .i64 (.negSucc (nat_lit 0)))
def q64:List Val:=[.nilf,.nilp,.nilf,.nilp]
def q68:Val:=(.str [110,97,109,101,115,112,97,99,101])
def q69:Val:=(.str [114,101,108,97,116,105,111,110])
def q70:Val:=(.str [116,104,105,115])
def q71:List Val:=[(.int .u8 (.ofNat (nat_lit 0))),(.str []),(.int .i64 (.ofNat (nat_lit 0)))]
def q72:Val:=(.int .u8 (.ofNat (nat_lit 45)))
def q73:Val:=(.int .u8 (.ofNat (nat_lit 123)))
def q74:Val:=(.int .u8 (.ofNat (nat_lit 125)))
def q75:Val:=(.int .u8 (.ofNat (nat_lit 91)))
def q76:Val:=(.int .u8 (.ofNat (nat_lit 93)))
def q77:Val:=(.int .u8 (.ofNat (nat_lit 40)))
def q78:Val:=(.int .u8 (.ofNat (nat_lit 41)))
def q79:Val:=(.int .u8 (.ofNat (nat_lit 58)))
def q80:Val:=(.int .u8 (.ofNat (nat_lit 44)))
def q81:Val:=(.int .u8 (.ofNat (nat_lit 59)))
def q82:Val:=(.int .u8 (.ofNat (nat_lit 61)))
def q83:Val:=(.int .u8 (.ofNat (nat_lit 124)))
def q84:Val:=(.int .u8 (.ofNat (nat_lit 38)))
def q85:Val:=(.int .u8 (.ofNat (nat_lit 35)))
def q86:Val:=(.int .i64 (.ofNat (nat_lit 10)))
def q87:List Val:=[(.bool false),(.bool false)]
def q88:Val:=(.int .u8 (.ofNat (nat_lit 5)))
def q89:List Val:=[(.int .u8 (.ofNat (nat_lit 0))),(.str []),(.str []),.nils,(.bool false)]
def q90:List Val:=[.nilf]
def q91:List Val:=[.nils,.nilm,.nilm,.nils,.nils]
def q92:List Val:=[.nilp]
def q93:List Val:=[(.str [])]
def q94:Val:=(.int .i64 (.ofNat (nat_lit 11)))
def q95:Val:=(.int .i64 (.ofNat (nat_lit 7)))
def q96:List Val:=[(.bool false)]
def q97:List Val:=[.nilf,.nilf,.nilf,.nilf]
def q98:List Val:=[(.int .i64 (.ofNat (nat_lit 0))),(.int .i64 (.ofNat (nat_lit 0))),(.int .i64 (.ofNat (nat_lit 0)))]
def q99:List Val:=[(.int .i64 (.ofNat (nat_lit 0))),(.int .i64 (.ofNat (nat_lit 0))),(.bool false)]
def q100:Val:=(.func (.func 202) [] [])
def q101:List Val:=[(.int .i64 (.ofNat (nat_lit 0))),.nils]
def q102:List Val:=[.nilm]
def q103:Val:=(.int .i64 (.ofNat (nat_lit 256)))
def q104:Val:=(.int .i64 (.ofNat (nat_lit 18)))
def q105:List Val:=[.nils,.nils,.nils,.nils,.nils,.nils,.nils,.nils,.nils,.nils,.nils,.nils,.nils,.nils,.nils,.nils,.nils,.nils,.nils,.nils,.nils,.nils,.nils,.nils,.nils,.nils,.nils,.nils,.nils,.nils,.nils,.nils,.nils,.nils,.nils,.nils,.nils,.nils,.nils,.nils,.nils,.nils,.nils,.nils,.nils,.nils,.nils,.nils,.nils,.nils,.nils,.nils,.nils,.nils,.nils,.nils,.nils,.nils,.nils,.nils,.nils,.nils,.nils,.nils,.nils,.nils,.nils,.nils,.nils,.nils,.nils,.nils,.nils,.nils,.nils,.nils,.nils,.nils,.nils,.nils,.nils,.nils,.nils,.nils,.nils,.nils,.nils,.nils,.nils,.nils,.nils,.nils,.nils,.nils,.nils,.nils,.nils,.nils,.nils,.nils,.nils,.nils,.nils,.nils,.nils,.nils,.nils,.nils,.nils,.nils,.nils,.nils,.nils,.nils,.nils,.nils,.nils,.nils,.nils,.nils,.nils,.nils,.nils,.nils,.nils,.nils,.nils,.nils,.nils,.nils,.nils,.nils,.nils,.nils,.nils,.nils,.nils,.nils,.nils,.nils,.nils,.nils,.nils,.nils,.nils,.nils,.nils,.nils,.nils,.nils,.nils,.nils,.nils,.nils,.nils,.nils,.nils,.nils,.nils,.nils,.nils,.nils,.nils,.nils,.nils,.nils,.nils,.nils,.nils,.nils,.nils,.nils,.nils,.nils,.nils,.nils,.nils,.nils,.nils,.nils,.nils,.nils,.nils,.nils,.nils,.nils,.nils,.nils,.nils,.nils,.nils,.nils,.nils,.nils,.nils,.nils,.nils,.nils,.nils,.nils,.nils,.nils,.nils,.nils,.nils,.nils,.nils,.nils,.nils,.nils,.nils,.nils,.nils,.nils,.nils,.nils,.nils,.nils,.nils,.nils,.nils,.nils,.nils,.nils,.nils,.nils,.nils,.nils,.nils,.nils,.nils,.nils,.nils,.nils,.nils,.nils,.nils,.nils,.nils,.nils,.nils,.nils,.nils,.nils,.nils,.nils,.nils,.nils,.nils,.nils,.nils,.nils,.nils,.nils,.nils,.nils,(.int .i64 (.ofNat (nat_lit 0))),(.int .i64 (.ofNat (nat_lit 0))),(.int .i64 (.ofNat (nat_lit 0))),(.int .i64 (.ofNat (nat_lit 0))),(.int .i64 (.ofNat (nat_lit 0))),(.int .i64 (.ofNat (nat_lit 0))),(.int .i64 (.ofNat (nat_lit 0))),(.int .i64 (.ofNat (nat_lit 0))),(.int .i64 (.ofNat (nat_lit 0))),(.int .i64 (.ofNat (nat_lit 0))),(.int .i64 (.ofNat (nat_lit 0))),(.int .i64 (.ofNat (nat_lit 0))),(.int .i64 (.ofNat (nat_lit 0))),(.int .i64 (.ofNat (nat_lit 0))),(.int .i64 (.ofNat (nat_lit 0))),(.int .i64 (.ofNat (nat_lit 0))),(.int .i64 (.ofNat (nat_lit 0))),(.int .i64 (.ofNat (nat_lit 0))),(.int .i64 (.ofNat (nat_lit 0))),(.int .i64 (.ofNat (nat_lit 0))),(.int .i64 (.ofNat (nat_lit 0))),(.int .i64 (.ofNat (nat_lit 0))),(.int .i64 (.ofNat (nat_lit 0))),(.int .i64 (.ofNat (nat_lit 0))),(.int .i64 (.ofNat (nat_lit 0))),(.int .i64 (.ofNat (nat_lit 0))),(.int .i64 (.ofNat (nat_lit 0))),(.int .i64 (.ofNat (nat_lit 0))),(.int .i64 (.ofNat (nat_lit 0))),(.int .i64 (.ofNat (nat_lit 0))),(.int .i64 (.ofNat (nat_lit 0))),(.int .i64 (.ofNat (nat_lit 0))),(.int .i64 (.ofNat (nat_lit 0))),(.int .i64 (.ofNat (nat_lit 0))),(.int .i64 (.ofNat (nat_lit 0))),(.int .i64 (.ofNat (nat_lit 0))),(.int .i64 (.ofNat (nat_lit 0))),(.int .i64 (.ofNat (nat_lit 0))),(.int .i64 (.ofNat (nat_lit 0))),(.int .i64 (.ofNat (nat_lit 0))),(.int .i64 (.ofNat (nat_lit 0))),(.int .i64 (.ofNat (nat_lit 0))),(.int .i64 (.ofNat (nat_lit 0))),(.int .i64 (.ofNat (nat_lit 0))),(.int .i64 (.ofNat (nat_lit 0))),(.int .i64 (.ofNat (nat_lit 0))),(.int .i64 (.ofNat (nat_lit 0))),(.int .i64 (.ofNat (nat_lit 0))),(.int .i64 (.ofNat (nat_lit 0))),(.int .i64 (.ofNat (nat_lit 0))),(.int .i64 (.ofNat (nat_lit 0))),(.int .i64 (.ofNat (nat_lit 0))),(.int .i64 (.ofNat (nat_lit 0))),(.int .i64 (.ofNat (nat_lit 0))),(.int .i64 (.ofNat (nat_lit 0))),(.int .i64 (.ofNat (nat_lit 0))),(.int .i64 (.ofNat (nat_lit 0))),(.int .i64 (.ofNat (nat_lit 0))),(.int .i64 (.ofNat (nat_lit 0))),(.int .i64 (.ofNat (nat_lit 0))),(.int .i64 (.ofNat (nat_lit 0))),(.int .i64 (.ofNat (nat_lit 0))),(.int .i64 (.ofNat (nat_lit 0))),(.int .i64 (.ofNat (nat_lit 0))),(.int .i64 (.ofNat (nat_lit 0))),(.int .i64 (.ofNat (nat_lit 0))),(.int .i64 (.ofNat (nat_lit 0))),(.int .i64 (.ofNat (nat_lit 0))),(.int .i64 (.ofNat (nat_lit 0))),(.int .i64 (.ofNat (nat_lit 0))),(.int .i64 (.ofNat (nat_lit 0))),(.int .i64 (.ofNat (nat_lit 0))),(.int .i64 (.ofNat (nat_lit 0))),(.int .i64 (.ofNat (nat_lit 0))),(.int .i64 (.ofNat (nat_lit 0))),(.int .i64 (.ofNat (nat_lit 0))),(.int .i64 (.ofNat (nat_lit 0))),(.int .i64 (.ofNat (nat_lit 0))),(.int .i64 (.ofNat (nat_lit 0))),(.int .i64 (.ofNat (nat_lit 0))),(.int .i64 (.ofNat (nat_lit 0))),(.int .i64 (.ofNat (nat_lit 0))),(.int .i64 (.ofNat (nat_lit 0))),(.int .i64 (.ofNat (nat_lit 0))),(.int .i64 (.ofNat (nat_lit 0))),(.int .i64 (.ofNat (nat_lit 0))),(.int .i64 (.ofNat (nat_lit 0))),(.int .i64 (.ofNat (nat_lit 0))),(.int .i64 (.ofNat (nat_lit 0))),(.int .i64 (.ofNat (nat_lit 0))),(.int .i64 (.ofNat (nat_lit 0))),(.int .i64 (.ofNat (nat_lit 0))),(.int .i64 (.ofNat (nat_lit 0))),(.int .i64 (.ofNat (nat_lit 0))),(.int .i64 (.ofNat (nat_lit 0))),(.int .i64 (.ofNat (nat_lit 0))),(.int .i64 (.ofNat (nat_lit 0))),(.int .i64 (.ofNat (nat_lit 0))),(.int .i64 (.ofNat (nat_lit 0))),(.int .i64 (.ofNat (nat_lit 0))),(.int .i64 (.ofNat (nat_lit 0))),(.int .i64 (.ofNat (nat_lit 0))),(.int .i64 (.ofNat (nat_lit 0))),(.int .i64 (.ofNat (nat_lit 0))),(.int .i64 (.ofNat (nat_lit 0))),(.int .i64 (.ofNat (nat_lit 0))),(.int .i64 (.ofNat (nat_lit 0))),(.int .i64 (.ofNat (nat_lit 0))),(.int .i64 (.ofNat (nat_lit 0))),(.int .i64 (.ofNat (nat_lit 0))),(.int .i64 (.ofNat (nat_lit 0))),(.int .i64 (.ofNat (nat_lit 0))),(.int .i64 (.ofNat (nat_lit 0))),(.int .i64 (.ofNat (nat_lit 0))),(.int .i64 (.ofNat (nat_lit 0))),(.int .i64 (.ofNat (nat_lit 0))),(.int .i64 (.ofNat (nat_lit 0))),(.int .i64 (.ofNat (nat_lit 0))),(.int .i64 (.ofNat (nat_lit 0))),(.int .i64 (.ofNat (nat_lit 0))),(.int .i64 (.ofNat (nat_lit 0))),(.int .i64 (.ofNat (nat_lit 0))),(.int .i64 (.ofNat (nat_lit 0))),(.int .i64 (.ofNat (nat_lit 0))),(.int .i64 (.ofNat (nat_lit 0))),(.int .i64 (.ofNat (nat_lit 0))),(.int .i64 (.ofNat (nat_lit 0))),(.int .i64 (.ofNat (nat_lit 0))),(.int .i64 (.ofNat (nat_lit 0))),(.int .i64 (.ofNat (nat_lit 0))),(.int .i64 (.ofNat (nat_lit 0))),(.int .i64 (.ofNat (nat_lit 0))),(.int .i64 (.ofNat (nat_lit 0))),(.int .i64 (.ofNat (nat_lit 0))),(.int .i64 (.ofNat (nat_lit 0))),(.int .i64 (.ofNat (nat_lit 0))),(.int .i64 (.ofNat (nat_lit 0))),(.int .i64 (.ofNat (nat_lit 0))),(.int .i64 (.ofNat (nat_lit 0))),(.int .i64 (.ofNat (nat_lit 0))),(.int .i64 (.ofNat (nat_lit 0))),(.int .i64 (.ofNat (nat_lit 0))),(.int .i64 (.ofNat (nat_lit 0))),(.int .i64 (.ofNat (nat_lit 0))),(.int .i64 (.ofNat (nat_lit 0))),(.int .i64 (.ofNat (nat_lit 0))),(.int .i64 (.ofNat (nat_lit 0))),(.int .i64 (.ofNat (nat_lit 0))),(.int .i64 (.ofNat (nat_lit 0))),(.int .i64 (.ofNat (nat_lit 0))),(.int .i64 (.ofNat (nat_lit 0))),(.int .i64 (.ofNat (nat_lit 0))),(.int .i64 (.ofNat (nat_lit 0))),(.int .i64 (.ofNat (nat_lit 0))),(.int .i64 (.ofNat (nat_lit 0))),(.int .i64 (.ofNat (nat_lit 0))),(.int .i64 (.ofNat (nat_lit 0))),(.int .i64 (.ofNat (nat_lit 0))),(.int .i64 (.ofNat (nat_lit 0))),(.int .i64 (.ofNat (nat_lit 0))),(.int .i64 (.ofNat (nat_lit 0))),(.int .i64 (.ofNat (nat_lit 0))),(.int .i64 (.ofNat (nat_lit 0))),(.int .i64 (.ofNat (nat_lit 0))),(.int .i64 (.ofNat (nat_lit 0))),(.int .i64 (.ofNat (nat_lit 0))),(.int .i64 (.ofNat (nat_lit 0))),(.int .i64 (.ofNat (nat_lit 0))),(.int .i64 (.ofNat (nat_lit 0))),(.int .i64 (.ofNat (nat_lit 0))),(.int .i64 (.ofNat (nat_lit 0))),(.int .i64 (.ofNat (nat_lit 0))),(.int .i64 (.ofNat (nat_lit 0))),(.int .i64 (.ofNat (nat_lit 0))),(.int .i64 (.ofNat (nat_lit 0))),(.int .i64 (.ofNat (nat_lit 0))),(.int .i64 (.ofNat (nat_lit 0))),(.int .i64 (.ofNat (nat_lit 0))),(.int .i64 (.ofNat (nat_lit 0))),(.int .i64 (.ofNat (nat_lit 0))),(.int .i64 (.ofNat (nat_lit 0))),(.int .i64 (.ofNat (nat_lit 0))),(.int .i64 (.ofNat (nat_lit 0))),(.int .i64 (.ofNat (nat_lit 0))),(.int .i64 (.ofNat (nat_lit 0))),(.int .i64 (.ofNat (nat_lit 0))),(.int .i64 (.ofNat (nat_lit 0))),(.int .i64 (.ofNat (nat_lit 0))),(.int .i64 (.ofNat (nat_lit 0))),(.int .i64 (.ofNat (nat_lit 0))),(.int .i64 (.ofNat (nat_lit 0))),(.int .i64 (.ofNat (nat_lit 0))),(.int .i64 (.ofNat (nat_lit 0))),(.int .i64 (.ofNat (nat_lit 0))),(.int .i64 (.ofNat (nat_lit 0))),(.int .i64 (.ofNat (nat_lit 0))),(.int .i64 (.ofNat (nat_lit 0))),(.int .i64 (.ofNat (nat_lit 0))),(.int .i64 (.ofNat (nat_lit 0))),(.int .i64 (.ofNat (nat_lit 0))),(.int .i64 (.ofNat (nat_lit 0))),(.int .i64 (.ofNat (nat_lit 0))),(.int .i64 (.ofNat (nat_lit 0))),(.int .i64 (.ofNat (nat_lit 0))),(.int .i64 (.ofNat (nat_lit 0))),(.int .i64 (.ofNat (nat_lit 0))),(.int .i64 (.ofNat (nat_lit 0))),(.int .i64 (.ofNat (nat_lit 0))),(.int .i64 (.ofNat (nat_lit 0))),(.int .i64 (.ofNat (nat_lit 0))),(.int .i64 (.ofNat (nat_lit 0))),(.int .i64 (.ofNat (nat_lit 0))),(.int .i64 (.ofNat (nat_lit 0))),(.int .i64 (.ofNat (nat_lit 0))),(.int .i64 (.ofNat (nat_lit 0))),(.int .i64 (.ofNat (nat_lit 0))),(.int .i64 (.ofNat (nat_lit 0))),(.int .i64 (.ofNat (nat_lit 0))),(.int .i64 (.ofNat (nat_lit 0))),(.int .i64 (.ofNat (nat_lit 0))),(.int .i64 (.ofNat (nat_lit 0))),(.int .i64 (.ofNat (nat_lit 0))),(.int .i64 (.ofNat (nat_lit 0))),(.int .i64 (.ofNat (nat_lit 0))),(.int .i64 (.ofNat (nat_lit 0))),(.int .i64 (.ofNat (nat_lit 0))),(.int .i64 (.ofNat (nat_lit 0))),(.int .i64 (.ofNat (nat_lit 0))),(.int .i64 (.ofNat (nat_lit 0))),(.int .i64 (.ofNat (nat_lit 0))),(.int .i64 (.ofNat (nat_lit 0))),(.int .i64 (.ofNat (nat_lit 0))),(.int .i64 (.ofNat (nat_lit 0))),(.int .i64 (.ofNat (nat_lit 0))),(.int .i64 (.ofNat (nat_lit 0))),(.int .i64 (.ofNat (nat_lit 0))),(.int .i64 (.ofNat (nat_lit 0))),(.int .i64 (.ofNat (nat_lit 0))),(.int .i64 (.ofNat (nat_lit 0))),(.int .i64 (.ofNat (nat_lit 0))),(.int .i64 (.ofNat (nat_lit 0))),(.int .i64 (.ofNat (nat_lit 0))),(.int .i64 (.ofNat (nat_lit 0))),(.int .i64 (.ofNat (nat_lit 0))),(.int .i64 (.ofNat (nat_lit 0))),(.int .i64 (.ofNat (nat_lit 0))),(.int .i64 (.ofNat (nat_lit 0))),(.int .i64 (.ofNat (nat_lit 0))),(.int .i64 (.ofNat (nat_lit 0))),(.int .i64 (.ofNat (nat_lit 0))),(.int .i64 (.ofNat (nat_lit 0))),(.int .i64 (.ofNat (nat_lit 0))),(.int .i64 (.ofNat (nat_lit 0))),(.int .i64 (.ofNat (nat_lit 0))),(.int .i64 (.ofNat (nat_lit 0))),(.int .i64 (.ofNat (nat_lit 0))),(.int .i64 (.ofNat (nat_lit 0))),(.int .i64 (.ofNat (nat_lit 0))),(.int .i64 (.ofNat (nat_lit 0))),(.int .i64 (.ofNat (nat_lit 0))),(.int .i64 (.ofNat (nat_lit 0))),(.int .i64 (.ofNat (nat_lit 0))),(.int .i64 (.ofNat (nat_lit 0))),(.int .i64 (.ofNat (nat_lit 0))),(.int .i64 (.ofNat (nat_lit 0))),(.int .i64 (.ofNat (nat_lit 0))),(.int .i64 (.ofNat (nat_lit 0))),(.int .i64 (.ofNat (nat_lit 0))),(.int .i64 (.ofNat (nat_lit 0))),(.int .i64 (.ofNat (nat_lit 0))),(.int .i64 (.ofNat (nat_lit 0))),(.int .i64 (.ofNat (nat_lit 0))),(.int .i64 (.ofNat (nat_lit 0))),(.int .i64 (.ofNat (nat_lit 0))),(.int .i64 (.ofNat (nat_lit 0))),(.int .i64 (.ofNat (nat_lit 0))),(.int .i64 (.ofNat (nat_lit 0))),(.int .i64 (.ofNat (nat_lit 0))),(.int .i64 (.ofNat (nat_lit 0))),(.int .i64 (.ofNat (nat_lit 0))),(.int .i64 (.ofNat (nat_lit 0))),(.int .i64 (.ofNat (nat_lit 0))),(.int .i64 (.ofNat (nat_lit 0))),(.int .i64 (.ofNat (nat_lit 0))),(.int .i64 (.ofNat (nat_lit 0))),(.int .i64 (.ofNat (nat_lit 0))),(.int .i64 (.ofNat (nat_lit 0))),(.int .i64 (.ofNat (nat_lit 0))),(.int .i64 (.ofNat (nat_lit 0))),(.int .i64 (.ofNat (nat_lit 0))),(.int .i64 (.ofNat (nat_lit 0))),(.int .i64 (.ofNat (nat_lit 0))),(.int .i64 (.ofNat (nat_lit 0))),(.int .i64 (.ofNat (nat_lit 0))),(.int .i64 (.ofNat (nat_lit 0))),(.int .i64 (.ofNat (nat_lit 0))),(.int .i64 (.ofNat (nat_lit 0))),(.int .i64 (.ofNat (nat_lit 0))),(.int .i64 (.ofNat (nat_lit 0))),(.int .i64 (.ofNat (nat_lit 0))),(.int .i64 (.ofNat (nat_lit 0))),(.int .i64 (.ofNat (nat_lit 0))),(.int .i64 (.ofNat (nat_lit 0))),(.int .i64 (.ofNat (nat_lit 0))),(.int .i64 (.ofNat (nat_lit 0))),(.int .i64 (.ofNat (nat_lit 0))),(.int .i64 (.ofNat (nat_lit 0))),(.int .i64 (.ofNat (nat_lit 0))),(.int .i64 (.ofNat (nat_lit 0))),(.int .i64 (.ofNat (nat_lit 0))),(.int .i64 (.ofNat (nat_lit 0))),(.int .i64 (.ofNat (nat_lit 0))),(.int .i64 (.ofNat (nat_lit 0))),(.int .i64 (.ofNat (nat_lit 0))),(.int .i64 (.ofNat (nat_lit 0))),(.int .i64 (.ofNat (nat_lit 0))),(.int .i64 (.ofNat (nat_lit 0))),(.int .i64 (.ofNat (nat_lit 0))),(.int .i64 (.ofNat (nat_lit 0))),(.int .i64 (.ofNat (nat_lit 0))),(.int .i64 (.ofNat (nat_lit 0))),(.int .i64 (.ofNat (nat_lit 0))),(.int .i64 (.ofNat (nat_lit 0))),(.int .i64 (.ofNat (nat_lit 0))),(.int .i64 (.ofNat (nat_lit 0))),(.int .i64 (.ofNat (nat_lit 0))),(.int .i64 (.ofNat (nat_lit 0))),(.int .i64 (.ofNat (nat_lit 0))),(.int .i64 (.ofNat (nat_lit 0))),(.int .i64 (.ofNat (nat_lit 0))),(.int .i64 (.ofNat (nat_lit 0))),(.int .i64 (.ofNat (nat_lit 0))),(.int .i64 (.ofNat (nat_lit 0))),(.int .i64 (.ofNat (nat_lit 0))),(.int .i64 (.ofNat (nat_lit 0))),(.int .i64 (.ofNat (nat_lit 0))),(.int .i64 (.ofNat (nat_lit 0))),(.int .i64 (.ofNat (nat_lit 0))),(.int .i64 (.ofNat (nat_lit 0))),(.int .i64 (.ofNat (nat_lit 0))),(.int .i64 (.ofNat (nat_lit 0))),(.int .i64 (.ofNat (nat_lit 0))),(.int .i64 (.ofNat (nat_lit 0))),(.int .i64 (.ofNat (nat_lit 0))),(.int .i64 (.ofNat (nat_lit 0))),(.int .i64 (.ofNat (nat_lit 0))),(.int .i64 (.ofNat (nat_lit 0))),(.int .i64 (.ofNat (nat_lit 0))),(.int .i64 (.ofNat (nat_lit 0))),(.int .i64 (.ofNat (nat_lit 0))),(.int .i64 (.ofNat (nat_lit 0))),(.int .i64 (.ofNat (nat_lit 0))),(.int .i64 (.ofNat (nat_lit 0))),(.int .i64 (.ofNat (nat_lit 0))),(.int .i64 (.ofNat (nat_lit 0))),(.int .i64 (.ofNat (nat_lit 0))),(.int .i64 (.ofNat (nat_lit 0))),(.int .i64 (.ofNat (nat_lit 0))),(.int .i64 (.ofNat (nat_lit 0))),(.int .i64 (.ofNat (nat_lit 0))),(.int .i64 (.ofNat (nat_lit 0))),(.int .i64 (.ofNat (nat_lit 0))),(.int .i64 (.ofNat (nat_lit 0))),(.int .i64 (.ofNat (nat_lit 0))),(.int .i64 (.ofNat (nat_lit 0))),(.int .i64 (.ofNat (nat_lit 0))),(.int .i64 (.ofNat (nat_lit 0))),(.int .i64 (.ofNat (nat_lit 0))),(.int .i64 (.ofNat (nat_lit 0))),(.int .i64 (.ofNat (nat_lit 0))),(.int .i64 (.ofNat (nat_lit 0))),(.int .i64 (.ofNat (nat_lit 0))),(.int .i64 (.ofNat (nat_lit 0))),(.int .i64 (.ofNat (nat_lit 0))),(.int .i64 (.ofNat (nat_lit 0))),(.int .i64 (.ofNat (nat_lit 0))),(.int .i64 (.ofNat (nat_lit 0))),(.int .i64 (.ofNat (nat_lit 0))),(.int .i64 (.ofNat (nat_lit 0))),(.int .i64 (.ofNat (nat_lit 0))),(.int .i64 (.ofNat (nat_lit 0))),(.int .i64 (.ofNat (nat_lit 0))),(.int .i64 (.ofNat (nat_lit 0))),(.int .i64 (.ofNat (nat_lit 0))),(.int .i64 (.ofNat (nat_lit 0))),(.int .i64 (.ofNat (nat_lit 0))),(.int .i64 (.ofNat (nat_lit 0))),(.int .i64 (.ofNat (nat_lit 0))),(.int .i64 (.ofNat (nat_lit 0))),(.int .i64 (.ofNat (nat_lit 0))),(.int .i64 (.ofNat (nat_lit 0))),(.int .i64 (.ofNat (nat_lit 0))),(.int .i64 (.ofNat (nat_lit 0))),(.int .i64 (.ofNat (nat_lit 0))),(.int .i64 (.ofNat (nat_lit 0))),(.int .i64 (.ofNat (nat_lit 0))),(.int .i64 (.ofNat (nat_lit 0))),(.int .i64 (.ofNat (nat_lit 0))),(.int .i64 (.ofNat (nat_lit 0))),(.int .i64 (.ofNat (nat_lit 0))),(.int .i64 (.ofNat (nat_lit 0))),(.int .i64 (.ofNat (nat_lit 0))),(.int .i64 (.ofNat (nat_lit 0))),(.int .i64 (.ofNat (nat_lit 0))),(.int .i64 (.ofNat (nat_lit 0))),(.int .i64 (.ofNat (nat_lit 0))),(.int .i64 (.ofNat (nat_lit 0))),(.int .i64 (.ofNat (nat_lit 0))),(.int .i64 (.ofNat (nat_lit 0))),(.int .i64 (.ofNat (nat_lit 0))),(.int .i64 (.ofNat (nat_lit 0))),(.int .i64 (.ofNat (nat_lit 0))),(.int .i64 (.ofNat (nat_lit 0))),(.int .i64 (.ofNat (nat_lit 0))),(.int .i64 (.ofNat (nat_lit 0))),(.int .i64 (.ofNat (nat_lit 0))),(.int .i64 (.ofNat (nat_lit 0))),(.int .i64 (.ofNat (nat_lit 0))),(.int .i64 (.ofNat (nat_lit 0))),(.int .i64 (.ofNat (nat_lit 0))),(.int .i64 (.ofNat (nat_lit 0))),(.int .i64 (.ofNat (nat_lit 0))),(.int .i64 (.ofNat (nat_lit 0))),(.int .i64 (.ofNat (nat_lit 0))),(.int .i64 (.ofNat (nat_lit 0))),(.int .i64 (.ofNat (nat_lit 0))),(.int .i64 (.ofNat (nat_lit 0))),(.int .i64 (.ofNat (nat_lit 0))),(.int .i64 (.ofNat (nat_lit 0))),(.int .i64 (.ofNat (nat_lit 0))),(.int .i64 (.ofNat (nat_lit 0))),(.int .i64 (.ofNat (nat_lit 0))),(.int .i64 (.ofNat (nat_lit 0))),(.int .i64 (.ofNat (nat_lit 0))),(.int .i64 (.ofNat (nat_lit 0))),(.int .i64 (.ofNat (nat_lit 0))),(.int .i64 (.ofNat (nat_lit 0))),(.int .i64 (.ofNat (nat_lit 0))),(.int .i64 (.ofNat (nat_lit 0))),(.int .i64 (.ofNat (nat_lit 0))),(.int .i64 (.ofNat (nat_lit 0))),(.int .i64 (.ofNat (nat_lit 0))),(.int .i64 (.ofNat (nat_lit 0))),(.int .i64 (.ofNat (nat_lit 0))),(.int .i64 (.ofNat (nat_lit 0))),(.int .i64 (.ofNat (nat_lit 0))),(.int .i64 (.ofNat (nat_lit 0))),(.int .i64 (.ofNat (nat_lit 0))),(.int .i64 (.ofNat (nat_lit 0))),(.int .i64 (.ofNat (nat_lit 0))),(.int .i64 (.ofNat (nat_lit 0))),(.int .i64 (.ofNat (nat_lit 0))),(.int .i64 (.ofNat (nat_lit 0))),(.int .i64 (.ofNat (nat_lit 0))),(.int .i64 (.ofNat (nat_lit 0))),(.int .i64 (.ofNat (nat_lit 0))),(.int .i64 (.ofNat (nat_lit 0))),(.int .i64 (.ofNat (nat_lit 0))),(.int .i64 (.ofNat (nat_lit 0))),(.int .i64 (.ofNat (nat_lit 0))),(.int .i64 (.ofNat (nat_lit 0))),(.int .i64 (.ofNat (nat_lit 0))),(.int .i64 (.ofNat (nat_lit 0))),(.int .i64 (.ofNat (nat_lit 0))),(.int .i64 (.ofNat (nat_lit 0))),(.int .i64 (.ofNat (nat_lit 0))),(.int .i64 (.ofNat (nat_lit 0))),(.int .i64 (.ofNat (nat_lit 0))),(.int .i64 (.ofNat (nat_lit 0))),(.int .i64 (.ofNat (nat_lit 0))),(.int .i64 (.ofNat (nat_lit 0))),(.int .i64 (.ofNat (nat_lit 0))),(.int .i64 (.ofNat (nat_lit 0))),(.int .i64 (.ofNat (nat_lit 0))),(.int .i64 (.ofNat (nat_lit 0))),(.int .i64 (.ofNat (nat_lit 0))),(.int .i64 (.ofNat (nat_lit 0))),(.int .i64 (.ofNat (nat_lit 0))),(.int .i64 (.ofNat (nat_lit 0))),(.int .i64 (.ofNat (nat_lit 0))),(.int .i64 (.ofNat (nat_lit 0))),(.int .i64 (.ofNat (nat_lit 0))),(.int .i64 (.ofNat (nat_lit 0))),(.int .i64 (.ofNat (nat_lit 0))),(.int .i64 (.ofNat (nat_lit 0))),(.int .i64 (.ofNat (nat_lit 0))),(.int .i64 (.ofNat (nat_lit 0))),(.int .i64 (.ofNat (nat_lit 0))),(.int .i64 (.ofNat (nat_lit 0))),(.int .i64 (.ofNat (nat_lit 0))),(.int .i64 (.ofNat (nat_lit 0))),(.int .i64 (.ofNat (nat_lit 0))),(.int .i64 (.ofNat (nat_lit 0))),(.int .i64 (.ofNat (nat_lit 0))),(.int .i64 (.ofNat (nat_lit 0))),(.int .i64 (.ofNat (nat_lit 0))),(.int .i64 (.ofNat (nat_lit 0))),(.int .i64 (.ofNat (nat_lit 0))),(.int .i64 (.ofNat (nat_lit 0))),(.int .i64 (.ofNat (nat_lit 0))),(.int .i64 (.ofNat (nat_lit 0))),(.int .i64 (.ofNat (nat_lit 0))),(.int .i64 (.ofNat (nat_lit 0))),(.int .i64 (.ofNat (nat_lit 0))),(.int .i64 (.ofNat (nat_lit 0))),(.int .i64 (.ofNat (nat_lit 0))),(.int .i64 (.ofNat (nat_lit 0))),(.int .i64 (.ofNat (nat_lit 0))),(.int .i64 (.ofNat (nat_lit 0))),(.int .i64 (.ofNat (nat_lit 0))),(.int .i64 (.ofNat (nat_lit 0))),(.int .i64 (.ofNat (nat_lit 0))),(.bool false),(.bool false),(.bool false),(.bool false),(.bool false),(.bool false),(.bool false),(.bool false),(.bool false),(.bool false),(.bool false),(.bool false),(.bool false),(.bool false),(.bool false),(.bool false),(.bool false),(.bool false),(.bool false),(.bool false),(.bool false),(.bool false),(.bool false),(.bool false),(.bool false),(.bool false),(.bool false),(.bool false),(.bool false),(.bool false),(.bool false),(.bool false),(.bool false),(.bool false),(.bool false),(.bool false),(.bool false),(.bool false),(.bool false),(.bool false),(.bool false),(.bool false),(.bool false),(.bool false),(.bool false),(.bool false),(.bool false),(.bool false),(.bool false),(.bool false),(.bool false),(.bool false),(.bool false),(.bool false),(.bool false),(.bool false),(.bool false),(.bool false),(.bool false),(.bool false),(.bool false),(.bool false),(.bool false),(.bool false),(.bool false),(.bool false),(.bool false),(.bool false),(.bool false),(.bool false),(.bool false),(.bool false),(.bool false),(.bool false),(.bool false),(.bool false),(.bool false),(.bool false),(.bool false),(.bool false),(.bool false),(.bool false),(.bool false),(.bool false),(.bool false),(.bool false),(.bool false),(.bool false),(.bool false),(.bool false),(.bool false),(.bool false),(.bool false),(.bool false),(.bool false),(.bool false),(.bool false),(.bool false),(.bool false),(.bool false),(.bool false),(.bool false),(.bool false),(.bool false),(.bool false),(.bool false),(.bool false),(.bool false),(.bool false),(.bool false),(.bool false),(.bool false),(.bool false),(.bool false),(.bool false),(.bool false),(.bool false),(.bool false),(.bool false),(.bool false),(.bool false),(.bool false),(.bool false),(.bool false),(.bool false),(.bool false),(.bool false),(.bool false),(.bool false),(.bool false),(.bool false),(.bool false),(.bool false),(.bool false),(.bool false),(.bool false),(.bool false),(.bool false),(.bool false),(.bool false),(.bool false),(.bool false),(.bool false),(.bool false),(.bool false),(.bool false),(.bool false),(.bool false),(.bool false),(.bool false),(.bool false),(.bool false),(.bool false),(.bool false),(.bool false),(.bool false),(.bool false),(.bool false),(.bool false),(.bool false),(.bool false),(.bool false),(.bool false),(.bool false),(.bool false),(.bool false),(.bool false),(.bool false),(.bool false),(.bool false),(.bool false),(.bool false),(.bool false),(.bool false),(.bool false),(.bool false),(.bool false),(.bool false),(.bool false),(.bool false),(.bool false),(.bool false),(.bool false),(.bool false),(.bool false),(.bool false),(.bool false),(.bool false),(.bool false),(.bool false),(.bool false),(.bool false),(.bool false),(.bool false),(.bool false),(.bool false),(.bool false),(.bool false),(.bool false),(.bool false),(.bool false),(.bool false),(.bool false),(.bool false),(.bool false),(.bool false),(.bool false),(.bool false),(.bool false),(.bool false),(.bool false),(.bool false),(.bool false),(.bool false),(.bool false),(.bool false),(.bool false),(.bool false),(.bool false),(.bool false),(.bool false),(.bool false),(.bool false),(.bool false),(.bool false),(.bool false),(.bool false),(.bool false),(.bool false),(.bool false),(.bool false),(.bool false),(.bool false),(.bool false),(.bool false),(.bool false),(.bool false),(.bool false),(.bool false),(.bool false),(.bool false),(.bool false),(.bool false),(.bool false),(.bool false),(.bool false),(.bool false),(.bool false),(.bool false),(.bool false),(.bool false),(.bool false),(.bool false),(.bool false),(.bool false),(.bool false),.nils,(.int .i64 (.ofNat (nat_lit 0))),.nils]
def q106:Val:=(.func (.func 232) [] [])
def q107:List Val:=[.nils,.nils]
def q108:List Val:=[(.str []),(.str []),(.int .i64 (.ofNat (nat_lit 0)))]
def q109:List Val:=[(.int .u8 (.ofNat (nat_lit 0))),(.str []),(.str []),.nils,.nils,(.int .i64 (.ofNat (nat_lit 0)))]
def q110:List Val:=[(.bool false),.nils,.nilm,(.int .i64 (.ofNat (nat_lit 0)))]
def q111:List Val:=[(.str []),(.str []),(.int .i64 (.ofNat (nat_lit 0))),(.int .i64 (.ofNat (nat_lit 0))),.nils,.nils]
def q112:List Val:=[.nilp,.nilf,.nilp,.nilf,.nilp]
def q113:List Val:=[.nils,.nils,.nils,.nils,.nils]
def q114:List Val:=[(.int .u8 (.ofNat (nat_lit 0))),.nils,.nils]
def q115:Val:=(.func (.func 155) [] [])
def q116:List Val:=[.nilf,.nilf,.nilf]
def q117:Val:=(.func (.func 54) [] [])
def q118:Val:=(.func (.func 55) [] [])
def q119:Val:=(.func (.func 56) [] [])
def q120:Val:=(.str [99,97,110,110,111,116,32,98,101,32,110,101,103,97,116,105,118,101])
def q121:Val:=(.str [108,101,110,32,111,117,116,32,111,102,32,114,97,110,103,101])
def q122:Val:=(.func (.func 99) [] [])
def q123:Val:=(.func (.func 106) [] [])
def q124:Val:=(.func (.func 107) [] [])
def q125:Val:=(.func (.func 108) [] [])
def q126:Val:=(.func (.func 58) [] [])
def q127:Val:=(.str [99])
def q128:List Val:=[(.str []),(.str []),(.str []),(.str []),(.str []),(.str []),(.str []),(.str []),(.str []),(.str []),(.str []),(.str [])]
def q129:List Val:=[(.int .u8 (.ofNat (nat_lit 0))),.nils,.nils,(.int .u8 (.ofNat (nat_lit 0))),.nils,.nils,(.int .u8 (.ofNat (nat_lit 0))),.nils,.nils,(.int .u8 (.ofNat (nat_lit 0))),.nils,.nils]
def q130:List Val:=[(.bool false),(.bool false),(.bool false),(.bool false)]
def q131:List Val:=[.nils,.nils,.nils,.nils]
def q132:Val:=(.str [121])
def q133:Val:=(.int .i64 (.ofNat (nat_lit 300)))
def q134:Val:=(.int .i64 (.ofNat (nat_lit 20)))
def q135:Val:=(.str [97,98,99,100,101,102,103,104,105,106,107,108,109,110,111,112,113,114,115,116])
def q136:Val:=(.int .i64 (.ofNat (nat_lit 302)))
def q137:Val:=(.str [97,97])
def q138:Val:=(.int .i64 (.ofNat (nat_lit 301)))
def q139:Val:=(.int .i64 (.ofNat (nat_lit 299)))
def q140:Val:=(.str [113])
end
end Go.V
end
