/-
  Parts of the proof, from: Machine K: functions.
-/
import Derived.Test.YtacccjmlocoahaaGreatProg
import Derived.KernelRfl
import Derived.Test.YtacccjmlocoahaaGreatZ3

set_option linter.unusedVariables false
set_option linter.unusedSimpArgs false
set_option linter.unusedSectionVars false
section
namespace Go.V
noncomputable section
abbrev FT:=Heap→List Val→(List Val→Heap→AN)→AN
def FO (E:Env) (f:FuncId) (F:FT):Prop:= ∀ (p:Heap) (args:List Val) (k:List Val→Heap→AN),F p args k≠.no → ∃ r p',F p args k=k r p'∧SimC E f args p (resultOf r) p'
def heapK:Heap:=⟨nat_lit 0,.leaf,[],nat_lit 0,nat_lit 0⟩
def C0 (F:FT) (a:List Val):AN:=F heapK a (fun r p=>outK false p r (fun l=>.ok false l))
def orA (a b:AN):AN:=AN.rec (motive:=fun _=>AN) b (fun st l=>.ok st l) a
def C1 (F:FT) (a:List Val):AN:=F heapK a (fun r p=>orA (outK true p r (fun l=>.ok true l)) (outK false p r (fun l=>.ok false l)))
def anK (a:AN) (k:Bool→List Val→AN):AN:=AN.rec (motive:=fun _=>AN) .no k a
theorem pc_of {E:Env} {f:FuncId} {F:FT} (hF:FO E f F) {a:List Val} {st:Bool} {l:List Val} {k:List Val→Heap→AN} (e:F heapK a k=.ok st l) (w: ∀ r p',k r p'=.ok st l→outO st p' r=some l):PC E f a st l:=by
 have hn:F heapK a k≠.no :=by rw [e];intro q;cases q
 obtain ⟨r,p',h1,h2⟩:=hF heapK a k hn
 refine ⟨⟨fun h F' σ args' ks' hr ha hk=> ?_⟩⟩
 obtain ⟨n,v',h',F2,σ2,e2,s,rv⟩:=h2 h F' σ args' hr ha
 exact ⟨n,v',h',_,[],p',F2,σ2,e2,s.far,s.hr,rv,hk,r,rfl,w r p' (by rw [←h1];exact e)⟩
theorem C0_pc {E:Env} {f:FuncId} {F:FT} (hF:FO E f F) {a:List Val} {st:Bool} {l:List Val} (e:C0 F a=.ok st l):PC E f a st l:=by
 refine pc_of hF e fun r p' h2=> ?_
 obtain ⟨l',h3,h4⟩:=outK_inv (k:=fun l=>.ok false l) (by rw [h2];intro q;cases q)
 rw [h4] at h2
 cases h2
 exact h3
theorem C1_pc {E:Env} {f:FuncId} {F:FT} (hF:FO E f F) {a:List Val} {st:Bool} {l:List Val} (e:C1 F a=.ok st l):PC E f a st l:=by
 refine pc_of hF e fun r p' h2=> ?_
 have key: ∀ s:Bool,outK s p' r (fun l=>.ok s l)=.ok st l→outO st p' r=some l:=by
  intro s h3
  obtain ⟨l',h4,h5⟩:=outK_inv (k:=fun l=>.ok s l) (by rw [h3];intro q;cases q)
  rw [h5] at h3
  cases h3
  exact h4
 cases h3:outK true p' r (fun l=>.ok true l) with
 |no=>
  rw [h3] at h2
  exact key false h2
 |ok s' l'=>
  rw [h3] at h2
  have h4:AN.ok s' l'=.ok st l:=h2
  cases h4
  exact key true h3
def ci (F:FT):CK:=fun p args k=>F p args (fun r p=>k (resR r) p)
def cc (F:FT):CK:=fun p args k=>resK p false args (fun a u=>List.rec (motive:=fun _=>AN) (anK (C0 F a) (fun st l=>otcK st l p [] k)) (fun _ _ _=>anK (C1 F a) (fun st l=>otcK st l p u k)) u)
theorem anK_inv {a:AN} {k:Bool→List Val→AN} (h:anK a k≠.no): ∃ st l,a=.ok st l∧anK a k=k st l:=by
 cases a with
 |no=>exact absurd rfl h
 |ok st l=>exact ⟨st,l,rfl,rfl⟩
theorem ci_ok {E:Env} {f:FuncId} {F:FT} (hF:FO E f F):CallOk E f (ci F):=by
 intro p args k h
 obtain ⟨r,p',h1,h2⟩:=hF p args _ h
 exact ⟨_,p',by show F p args _=_;rw [h1,resR_eq],h2⟩
theorem cc_ok {E:Env} {f:FuncId} {F:FT} (hF:FO E f F):CallOk E f (cc F):=by
 intro p args k h
 unfold cc at h ⊢
 obtain ⟨a,u,h1,h2⟩:=resK_inv h
 rw [h2] at h ⊢
 cases u with
 |nil=>
  have h':anK (C0 F a) (fun st l=>otcK st l p [] k)≠.no :=h
  obtain ⟨st,l,h3,h4⟩:=anK_inv h'
  have h'':=h'
  rw [h4] at h''
  obtain ⟨v,p',h5,h6⟩:=otcK_inv h''
  exact ⟨v,p',h4.trans h6,fun h F' σ args' hr ha=>(C0_pc hF h3).sim hr ha h1 h5⟩
 |cons b u=>
  have h':anK (C1 F a) (fun st l=>otcK st l p (b::u) k)≠.no :=h
  obtain ⟨st,l,h3,h4⟩:=anK_inv h'
  have h'':=h'
  rw [h4] at h''
  obtain ⟨v,p',h5,h6⟩:=otcK_inv h''
  exact ⟨v,p',h4.trans h6,fun h F' σ args' hr ha=>(C1_pc hF h3).sim hr ha h1 h5⟩
def agX (n:Nat):Nat→List Val→(List (Nat×Val)→AN)→AN:=Nat.rec (motive:=fun _=>Nat→List Val→(List (Nat×Val)→AN)→AN) (fun _ l k=>nl l (k [])) (fun _ ih i l k=>hd l (fun v t=>ih (Nat.succ i) t (fun env=>k ((i,v)::env)))) n
theorem agX_inv: ∀ (n i:Nat) (l:List Val) {k:List (Nat×Val)→AN},agX n i l k≠.no →l.length=n∧agX n i l k=k (argsL i l)
 |0,i,[],k,_=>⟨rfl,rfl⟩
 |0,i,_::_,k,h=>absurd rfl h
 |n+1,i,[],k,h=>absurd rfl h
 |n+1,i,v::l,k,h=>by
  have e0:agX (n+1) i (v::l) k=agX n (i+1) l (fun env=>k ((i,v)::env)):=rfl
  rw [e0] at h ⊢
  obtain ⟨h1,h2⟩:=agX_inv n (i+1) l h
  exact ⟨by simp [h1],h2⟩
def kr1 (p:Heap) (a:Val) (k:Val→AN):AN:=ptrK a (fun b o=>hCells p b (fun c=>hdK (drK o c) k)) n2
def kra (p:Heap) (n:Nat) (a:Val) (k:Val→AN):AN:=ptrK a (fun b o=>ldC p b o n (fun l=>k (.agg l))) n2
def krz (p:Heap) (a:Val) (k:Val→AN):AN:=ptrK a (fun b o=>hCells p b (fun c=>ifB (Nat.ble o (lenF c)) (k (.agg [])))) n2
def rdX (N:Nat) (rs:List (Nat×Option (Bool×Nat))):List (Nat×Val)→Heap→(List Val→AN)→AN:=List.rec (motive:=fun _=>List (Nat×Val)→Heap→(List Val→AN)→AN) (fun _ _ k=>k []) (fun x _ ih env p k=>Option.rec (motive:=fun _=>AN) (ih env p (fun l=>k (evE N env (.t x.1)::l))) (fun y=>Bool.rec (motive:=fun _=>AN) (ifS (Nat.beq y.2 1) (kr1 p (evE N env (.t x.1)) (fun v=>ih env p (fun l=>k (v::l))))) (Bool.rec (motive:=fun _=>AN) (krz p (evE N env (.t x.1)) (fun v=>ih env p (fun l=>k (v::l)))) (kra p y.2 (evE N env (.t x.1)) (fun v=>ih env p (fun l=>k (v::l)))) (Nat.ble 1 y.2)) y.1) x.2) rs
theorem rdX_inv {N:Nat} {env:List (Nat×Val)} {p:Heap}: ∀ (rs:List (Nat×Option (Bool×Nat))) {k:List Val→AN},rdX N rs env p k≠.no → ∃ l,readResults (V.mk N env) p rs=some l∧rdX N rs env p k=k l
 |[],k,_=>⟨[],rfl,rfl⟩
 |(t,none)::rs,k,h=>by
  have e0:rdX N ((t,none)::rs) env p k=rdX N rs env p (fun l=>k (evE N env (.t t)::l)):=rfl
  rw [e0] at h ⊢
  obtain ⟨l,h1,h2⟩:=rdX_inv rs h
  exact ⟨(V.mk N env).getD t .undef ::l,by simp only [readResults,h1],by rw [h2,evE_eq];rfl⟩
 |(t,some (false,n))::rs,k,h=>by
  have e0:rdX N ((t,some (false,n))::rs) env p k=ifS (Nat.beq n 1) (kr1 p (evE N env (.t t)) (fun v=>rdX N rs env p (fun l=>k (v::l)))):=rfl
  rw [e0] at h ⊢
  obtain ⟨h1,h2⟩:=ifS_inv h
  rw [h2] at h ⊢
  have h1:=Nat.eq_of_beq_eq_true h1
  subst h1
  unfold kr1 at h ⊢
  rcases ptrK_inv h with ⟨b,o,e1,e2⟩|⟨c,o,e1,e2⟩
  ·rw [e2] at h ⊢
   obtain ⟨c,h3,h4⟩:=hCells_inv h
   rw [h4] at h ⊢
   obtain ⟨v,h5,h6⟩:=hdK_inv h
   rw [h6] at h ⊢
   obtain ⟨l,h7,h8⟩:=rdX_inv rs h
   refine ⟨v::l,?_,h8⟩
   have q1:o<c.length:=(List.getElem?_eq_some_iff.1 h5).1
   have q2:(c.drop o).take 1=[v]:=by rw [List.take_one,List.head?_drop,h5];rfl
   have q3:(V.mk N env).getD t .undef =.ptr b o:=by rw [evE_eq] at e1;exact e1
   have q4:p.load b o 1=some [v]:=by
    unfold Heap.load
    rw [h3]
    simp only
    rw [if_pos (show o+1≤c.length from q1),q2]
   simp only [readResults,q3,q4,h7,Bool.false_eq_true,if_false]
  ·rw [e2] at h;exact absurd rfl h
 |(t,some (true,n))::rs,k,h=>by
  have e0:rdX N ((t,some (true,n))::rs) env p k=Bool.rec (motive:=fun _=>AN) (krz p (evE N env (.t t)) (fun v=>rdX N rs env p (fun l=>k (v::l)))) (kra p n (evE N env (.t t)) (fun v=>rdX N rs env p (fun l=>k (v::l)))) (Nat.ble 1 n):=rfl
  rw [e0,ble_rec] at h ⊢
  by_cases h1:1≤n
  ·rw [if_pos h1] at h ⊢
   unfold kra at h ⊢
   rcases ptrK_inv h with ⟨b,o,e1,e2⟩|⟨c,o,e1,e2⟩
   ·rw [e2] at h ⊢
    obtain ⟨c,h3,h4⟩:=ldC_inv (by omega) h
    rw [h4] at h ⊢
    obtain ⟨l,h7,h8⟩:=rdX_inv rs h
    refine ⟨_,?_,h8⟩
    have q3:(V.mk N env).getD t .undef =.ptr b o:=by rw [evE_eq] at e1;exact e1
    simp only [readResults,q3,h3,h7,if_true]
   ·rw [e2] at h;exact absurd rfl h
  ·rw [if_neg h1] at h ⊢
   have h0:n=0:=by omega
   subst h0
   unfold krz at h ⊢
   rcases ptrK_inv h with ⟨b,o,e1,e2⟩|⟨c,o,e1,e2⟩
   ·rw [e2] at h ⊢
    obtain ⟨c,h3,h4⟩:=hCells_inv h
    rw [h4] at h ⊢
    obtain ⟨h5,h6⟩:=ble_inv h
    rw [h6] at h ⊢
    rw [lenF_eq] at h5
    obtain ⟨l,h7,h8⟩:=rdX_inv rs h
    refine ⟨.agg []::l,?_,h8⟩
    have q3:(V.mk N env).getD t .undef =.ptr b o:=by rw [evE_eq] at e1;exact e1
    have q4:p.load b o 0=some []:=by
     unfold Heap.load
     rw [h3]
     simp only
     rw [if_pos (by omega),List.take_zero]
    simp only [readResults,q3,q4,h7,if_true]
   ·rw [e2] at h;exact absurd rfl h
def endX (N:Nat) (rs:List (Nat×Option (Bool×Nat))) (k:List Val→Heap→AN):EK:=fun ex env p=>Ex.rec (motive:=fun _=>AN) (rdX N rs env p (fun l=>k l p)) (fun _=>.no) (rdX N rs env p (fun l=>k l p)) ex
theorem Rs.enter {h:Heap} {F:Nat→Prop} {σ:Sg} {n:Nat} {args args':List Val} (hn:args.length≤n) (r:Rs h F σ args args'):Rs h F σ (V.mk n (argsL 0 args)) (V.enter n args'):=by
 have r1:=enterR r n
 refine .of_getD (by rw [r1.length,mk_length];simp [V.enter];omega) fun t=> ?_
 have hg:=r1.getD t
 have key:(V.mk n (argsL 0 args)).getD t .undef =.junk ∨(V.mk n (argsL 0 args)).getD t .undef =(V.enter n args).getD t .undef :=by
  by_cases ht:t<n
  ·rw [mk_getD ht,lk_args]
   by_cases h:t<args.length
   ·right
    rw [if_pos (by omega)]
    simp [V.enter,List.getD_eq_getElem?_getD,List.getElem?_append,h]
   ·left;rw [if_neg (by omega)]
  ·right
   simp [mk,V.enter,List.getD_eq_getElem?_getD,List.getElem?_append,ht]
   split
   ·omega
   ·rw [List.getElem?_eq_none (by simp;omega)];rfl
 rcases key with e|e
 ·rw [e];simp only [Rv]
 ·rw [e];exact hg
theorem FO.fn {E:Env} {f:FuncId} {vf:VFn} {T:List Ce} {fu np:Nat} {F:FT} (hm:MethSim E.meth) (hT:TOk E T) (hf:E.fns f=some vf) (hp:E.prims f=none) (c:AC) (hc:c.vc=vf.body) (ho:c.ok=true) (hn:np≤vf.ntmps)
  (hF: ∀ p args k,F p args k=agX np 0 args (fun env=>X E.meth T vf.ntmps fu c env p (endX vf.ntmps vf.results k))):FO E f F:=by
 intro p args k h
 rw [hF] at h ⊢
 obtain ⟨h1,h2⟩:=agX_inv np 0 args h
 rw [h2] at h ⊢
 obtain ⟨ex,env',p',_,e,s⟩:=X_ok hm hT c ho h
 rw [e] at h ⊢
 rw [hc] at s
 have fin: ∀ l,(∀ i,ex≠.exit i)→readResults (V.mk vf.ntmps env') p' vf.results=some l→SimC E f args p (resultOf l) p':=by
  intro l hne hl h F' σ args' hr ha
  obtain ⟨n,fr2',h2,F2,σ2,e2,s2,r2⟩:=s h F' σ _ hr (ha.enter (by omega))
  obtain ⟨l',hl',rl⟩:=readResultsR s2.hr r2 vf.results hl
  exact ⟨n,_,h2,F2,σ2,callF_of hp hf e2 hne hl',s2,resultOfR rl⟩
 cases ex with
 |exit i=>exact absurd rfl h
 |normal=>
  have h':rdX vf.ntmps vf.results env' p' (fun l=>k l p')≠.no :=h
  obtain ⟨l,h3,h4⟩:=rdX_inv _ h'
  exact ⟨l,p',h4,fin l (fun i q=>by cases q) h3⟩
 |ret=>
  have h':rdX vf.ntmps vf.results env' p' (fun l=>k l p')≠.no :=h
  obtain ⟨l,h3,h4⟩:=rdX_inv _ h'
  exact ⟨l,p',h4,fin l (fun i q=>by cases q) h3⟩
def rcF (d:Nat) (body:FT→FT):FT:=Nat.rec (motive:=fun _=>FT) (fun _ _ _=>.no) (fun _ ih=>body ih) d
theorem FO.rc {E:Env} {f:FuncId} {body:FT→FT} (w: ∀ F,FO E f F→FO E f (body F)): ∀ d,FO E f (rcF d body)
 |0=>fun _ _ _ h=>absurd rfl h
 |d+1=>w _ (FO.rc w d)
def rcM (d:Nat) (body:(Nat→FT)→Nat→FT):Nat→FT:=Nat.rec (motive:=fun _=>Nat→FT) (fun _ _ _ _=>.no) (fun _ ih=>body ih) d
def bth (a b:(Nat→FT)→FT) (s:Nat→FT) (i:Nat):FT:=Nat.rec (motive:=fun _=>FT) (a s) (fun _ _=>b s) i
theorem FO.rm {E:Env} {f g:FuncId} {A B:(Nat→FT)→FT} (wA: ∀ S,FO E f (S 0)→FO E g (S 1)→FO E f (A S)) (wB: ∀ S,FO E f (S 0)→FO E g (S 1)→FO E g (B S)): ∀ d,FO E f (rcM d (bth A B) 0)∧FO E g (rcM d (bth A B) 1)
 |0=>⟨fun _ _ _ h=>absurd rfl h,fun _ _ _ h=>absurd rfl h⟩
 |d+1=>⟨wA _ (FO.rm wA wB d).1 (FO.rm wA wB d).2,wB _ (FO.rm wA wB d).1 (FO.rm wA wB d).2⟩
def grp (l : List VOper) : List Gp := List.rec (motive := fun _ => List Gp) [] (fun o _ ih => match o.guard, ih with
  |none,.pl l::gs=>.pl (o::l)::gs
  |none,gs=>.pl [o]::gs
  |some (g,w),.gd g' w' l::gs=>Bool.rec (motive:=fun _=>List Gp) (.gd g w [o]::.gd g' w' l::gs) (Bool.rec (motive:=fun _=>List Gp) (.gd g w [o]::.gd g' w' l::gs) (.gd g w (o::l)::gs) (Bool.rec (motive:=fun _=>Bool) (notB w') w' w)) (Nat.beq g g')
  |some (g,w),gs=>.gd g w [o]::gs) l
theorem grp_ops: ∀ l:List VOper,opsG (grp l)=l
  |[]=>rfl
  |o::l=>by
    have ih:=grp_ops l
    have e0 : grp (o :: l) = (match o.guard, grp l with
      |none,.pl l::gs=>.pl (o::l)::gs
      |none,gs=>.pl [o]::gs
      |some (g,w),.gd g' w' l::gs=>Bool.rec (motive:=fun _=>List Gp) (.gd g w [o]::.gd g' w' l::gs) (Bool.rec (motive:=fun _=>List Gp) (.gd g w [o]::.gd g' w' l::gs) (.gd g w (o::l)::gs) (Bool.rec (motive:=fun _=>Bool) (notB w') w' w)) (Nat.beq g g')
      |some (g,w),gs=>.gd g w [o]::gs):=rfl
    rw [e0]
    revert ih
    cases grp l with
    |nil=>
      intro ih
      cases hg:o.guard with
      |none=>show o::opsG []=_;rw [ih]
      |some gw=>show o::opsG []=_;rw [ih]
    |cons G gs=>
      intro ih
      have i2:o::(G.ops++opsG gs)=o::l:=by rw [←ih];rfl
      cases hg:o.guard with
      |none=>cases G<;>exact i2
      |some gw=>
        obtain ⟨g,w⟩:=gw
        cases G with
        |pl l'=>exact i2
        |gd g' w' l'=>
          show opsG (Bool.rec (motive:=fun _=>List Gp) _ _ (Nat.beq g g'))=_
          cases Nat.beq g g' with
          |false=>exact i2
          |true=>cases w<;>cases w'<;>exact i2
abbrev Nts:=List (Option (List Nat))
def nxt (l:Nts):Option (List Nat):=List.rec (motive:=fun _=>Option (List Nat)) none (fun x _ _=>x) l
def rst (l:Nts):Nts:=List.rec (motive:=fun _=>Nts) [] (fun _ t _=>t) l
def nxtL (l:Nts):List Nat:=Option.rec (motive:=fun _=>List Nat) [] (fun x=>x) (nxt l)
def ann (v:VC):Nts→AC×Nts:=VC.rec (motive:=fun _=>Nts→AC×Nts)
 (fun s=>(.skip,s))
 (fun l s=>(.reg (grp l),s))
 (fun l s=>(.drw (grp l),s))
 (fun _ _ ia ib s=>(.seq (ia s).1 (ib (ia s).2).1,(ib (ia s).2).2))
 (fun c _ _ ia ib s=>(.cnd c (nxt s) (ia (rst s)).1 (ib (ia (rst s)).2).1,(ib (ia (rst s)).2).2))
 (fun id _ ia s=>(.blk id (nxt s) (ia (rst s)).1,(ia (rst s)).2))
 (fun _ ia s=>(.lop (nxtL s) (ia (rst s)).1,(ia (rst s)).2))
 (fun x r ps a b _ _ s=>(.rng x r (nxtL s) (nxtL (rst s)) ps a b,rst (rst s)))
 (fun id s=>(.exi id,s))
 (fun s=>(.ret,s)) v
theorem ann_vc: ∀ (v:VC) (s:Nts),(ann v s).1.vc =v
 | .skip,_| .exit _,_| .ret,_| .range ..,_=>rfl
 | .region l,s=>congrArg VC.region (grp_ops l)
 | .draw l,s=>congrArg VC.draw (grp_ops l)
 | .seq a b,s=>by
  show VC.seq (ann a s).1.vc (ann b (ann a s).2).1.vc =_
  rw [ann_vc a,ann_vc b]
 | .cond c a b,s=>by
  show VC.cond c (ann a (rst s)).1.vc (ann b (ann a (rst s)).2).1.vc =_
  rw [ann_vc a,ann_vc b]
 | .block id a,s=>by
  show VC.block id (ann a (rst s)).1.vc =_
  rw [ann_vc a]
 | .loop a,s=>by
  show VC.loop (ann a (rst s)).1.vc =_
  rw [ann_vc a]
def unL (fr:List Val) (L:List Nat):(List (Nat×Val)→AN)→AN:=List.rec (motive:=fun _=>(List (Nat×Val)→AN)→AN) (fun k=>k []) (fun t _ ih k=>hdK (drK t fr) (fun v=>ih (fun env=>k ((t,v)::env)))) L
theorem psL_inv {N:Nat}: ∀ (ps:List Nat) (vals:List Val) (env:List (Nat×Val)) {k:List (Nat×Val)→AN},psL ps vals env k≠.no →vals.length=ps.length∧ ∃ env',psL ps vals env k=k env'∧setAll (V.mk N env) (ps.zip vals)=V.mk N env'
 |[],[],env,k,_=>⟨rfl,env,rfl,rfl⟩
 |[],_::_,env,k,h=>absurd rfl h
 |t::ps,[],env,k,h=>absurd rfl h
 |t::ps,v::vals,env,k,h=>by
  have e0:psL (t::ps) (v::vals) env k=psL ps vals ((t,v)::env) k:=rfl
  rw [e0] at h ⊢
  obtain ⟨h1,env',h2,h3⟩:=psL_inv ps vals ((t,v)::env) h
  refine ⟨by simp [h1],env',h2,?_⟩
  rw [List.zip_cons_cons,setAll,mk_set]
  exact h3
theorem unL_inv {fr:List Val}: ∀ (L:List Nat) {k:List (Nat×Val)→AN},unL fr L k≠.no → ∃ env,unL fr L k=k env∧ ∀ t,lk t env=.junk ∨lk t env=fr.getD t .undef
 |[],k,_=>⟨[],rfl,fun t=>.inl rfl⟩
 |t::L,k,h=>by
  have e0:unL fr (t::L) k=hdK (drK t fr) (fun v=>unL fr L (fun env=>k ((t,v)::env))):=rfl
  rw [e0] at h ⊢
  obtain ⟨v,h1,h2⟩:=hdK_inv h
  rw [h2] at h ⊢
  obtain ⟨env,h3,h4⟩:=unL_inv L h
  refine ⟨(t,v)::env,h3,fun t'=> ?_⟩
  rw [lk]
  by_cases e:t'=t
  ·subst e
   rw [if_pos rfl]
   right
   rw [List.getD_eq_getElem?_getD,h1];rfl
  ·rw [if_neg e];exact h4 t'
def isR0 (p:Heap) (j:Nat) (k:AN):AN:=rndK p j (fun st=>ifB (Nat.beq st (nat_lit 0)) k)
theorem isR0_inv {p:Heap} {j:Nat} {k:AN} (h:isR0 p j k≠.no):p.get j=some (.rnd 0)∧isR0 p j k=k:=by
 unfold isR0 at h ⊢
 obtain ⟨st,h1,h2⟩:=rndK_inv h
 rw [h2] at h ⊢
 obtain ⟨h3,h4⟩:=beq_inv h
 subst h3
 exact ⟨h1,h4⟩
def endR (j:Nat) (k:List Val→Heap→AN):EK:=fun ex _ p=>rndK p j (fun _=>Ex.rec (motive:=fun _=>AN) (putK p j (some (.rnd (nat_lit 0))) (fun p=>k [.bool true] p)) (fun i=>putK p j (some (.rnd (Nat.add i (nat_lit 3)))) (fun p=>k [.bool false] p)) (putK p j (some (.rnd (nat_lit 2))) (fun p=>k [.bool false] p)) ex)
def rdF (m:TypeId→Val→String→Option (FuncId×Val)) (T:List Ce) (N fu:Nat) (ps L:List Nat) (ca cb:AC):FT:=fun p args k=>hd args (fun pj s=>ptrK pj (fun j _=>hd s (fun tv fr=>tupK tv (fun vals=>ifB (Nat.beq (lenF fr) N) (ifB (Nat.ble p.floor j) (isR0 p j (unL fr L (fun env0=>psL ps vals env0 (fun env1=>X m T N fu ca env1 p (fun ex env p1=>Ex.rec (motive:=fun _=>AN) (isR0 p1 j (putK p1 j (some (.rnd (nat_lit 1))) (fun p2=>X m T N fu cb env p2 (endR j k)))) n1 .no ex))))))))) n2)
theorem setAllR' {h:Heap} {F:Nat→Prop} {σ:Sg} (ps:List Nat) {vs vs' fr fr':List Val} (a:Rs h F σ vs vs') (b:Rs h F σ fr fr'):Rs h F σ (setAll fr (ps.zip vs)) (setAll fr' (ps.zip vs')):=setAllR ps a b
theorem FO.rd {E:Env} {r:Nat} {rd:Rnd} {T:List Ce} {fu N:Nat} {L:List Nat} {F:FT} (hm:MethSim E.meth) (hT:TOk E T) (hrd:E.rnd r=some rd) (hp:E.prims (big+r)=none) (hf:E.fns (big+r)=none) (ca cb:AC) (hca:ca.vc=rd.a) (hcb:cb.vc=rd.b) (hoa:ca.ok=true) (hob:cb.ok=true)
  (hF: ∀ p args k,F p args k=rdF E.meth T N fu rd.ps L ca cb p args k):FO E (big+r) F:=by
 intro p args k h
 rw [hF] at h ⊢
 unfold rdF at h ⊢
 cases args with
 |nil=>exact absurd rfl h
 |cons pj s=>
 have h':ptrK pj (fun j _=>hd s (fun tv fr=>tupK tv (fun vals=>ifB (Nat.beq (lenF fr) N) (ifB (Nat.ble p.floor j) (isR0 p j (unL fr L (fun env0=>psL rd.ps vals env0 (fun env1=>X E.meth T N fu ca env1 p (fun ex env p1=>Ex.rec (motive:=fun _=>AN) (isR0 p1 j (putK p1 j (some (.rnd (nat_lit 1))) (fun p2=>X E.meth T N fu cb env p2 (endR j k)))) n1 .no ex))))))))) n2≠.no :=h
 rcases ptrK_inv h' with ⟨j,o,rfl,e2⟩|⟨_,_,_,e2⟩
 rotate_left
 ·rw [e2] at h';exact absurd rfl h'
 have goal: ∀ z,(∃ r_1 p',z=k r_1 p'∧SimC E (big+r) (.ptr j o::s) p (resultOf r_1) p')→ptrK (Val.ptr j o) (fun j _=>hd s (fun tv fr=>tupK tv (fun vals=>ifB (Nat.beq (lenF fr) N) (ifB (Nat.ble p.floor j) (isR0 p j (unL fr L (fun env0=>psL rd.ps vals env0 (fun env1=>X E.meth T N fu ca env1 p (fun ex env p1=>Ex.rec (motive:=fun _=>AN) (isR0 p1 j (putK p1 j (some (.rnd (nat_lit 1))) (fun p2=>X E.meth T N fu cb env p2 (endR j k)))) n1 .no ex))))))))) n2=z→ ∃ r_1 p',ptrK (Val.ptr j o) (fun j _=>hd s (fun tv fr=>tupK tv (fun vals=>ifB (Nat.beq (lenF fr) N) (ifB (Nat.ble p.floor j) (isR0 p j (unL fr L (fun env0=>psL rd.ps vals env0 (fun env1=>X E.meth T N fu ca env1 p (fun ex env p1=>Ex.rec (motive:=fun _=>AN) (isR0 p1 j (putK p1 j (some (.rnd (nat_lit 1))) (fun p2=>X E.meth T N fu cb env p2 (endR j k)))) n1 .no ex))))))))) n2=k r_1 p'∧SimC E (big+r) (.ptr j o::s) p (resultOf r_1) p':=fun z hz he=>by rw [he];exact hz
 refine goal _ ?_ e2
 rw [e2] at h'
 cases s with
 |nil=>exact absurd rfl h'
 |cons tv fr=>
 have h2:tupK tv (fun vals=>ifB (Nat.beq (lenF fr) N) (ifB (Nat.ble p.floor j) (isR0 p j (unL fr L (fun env0=>psL rd.ps vals env0 (fun env1=>X E.meth T N fu ca env1 p (fun ex env p1=>Ex.rec (motive:=fun _=>AN) (isR0 p1 j (putK p1 j (some (.rnd (nat_lit 1))) (fun p2=>X E.meth T N fu cb env p2 (endR j k)))) n1 .no ex)))))))≠.no :=h'
 show ∃ r_1 p',tupK tv (fun vals=>ifB (Nat.beq (lenF fr) N) (ifB (Nat.ble p.floor j) (isR0 p j (unL fr L (fun env0=>psL rd.ps vals env0 (fun env1=>X E.meth T N fu ca env1 p (fun ex env p1=>Ex.rec (motive:=fun _=>AN) (isR0 p1 j (putK p1 j (some (.rnd (nat_lit 1))) (fun p2=>X E.meth T N fu cb env p2 (endR j k)))) n1 .no ex)))))))=k r_1 p'∧_
 obtain ⟨vals,rfl,e3⟩:=tupK_inv h2
 rw [e3] at h2 ⊢
 obtain ⟨hN,e4⟩:=beq_inv h2
 rw [e4] at h2 ⊢
 rw [lenF_eq] at hN
 obtain ⟨hfl,e5⟩:=ble_inv h2
 rw [e5] at h2 ⊢
 obtain ⟨hg,e6⟩:=isR0_inv h2
 rw [e6] at h2 ⊢
 obtain ⟨env0,e7,hun⟩:=unL_inv L h2
 rw [e7] at h2 ⊢
 obtain ⟨hlen,env1,e8,hset⟩:=psL_inv (N:=N) rd.ps vals env0 h2
 rw [e8] at h2 ⊢
 obtain ⟨ex,env2,p1,_,e9,s1⟩:=X_ok hm hT ca hoa h2
 rw [e9] at h2 ⊢
 cases ex with
 |exit i=>exact absurd rfl h2
 |ret=>exact absurd rfl h2
 |normal=>
 have h3:isR0 p1 j (putK p1 j (some (.rnd 1)) (fun p2=>X E.meth T N fu cb env2 p2 (endR j k)))≠.no :=h2
 show ∃ r_1 p',isR0 p1 j (putK p1 j (some (.rnd 1)) (fun p2=>X E.meth T N fu cb env2 p2 (endR j k)))=k r_1 p'∧_
 obtain ⟨hg1,e10⟩:=isR0_inv h3
 rw [e10,putK_eq] at h3 ⊢
 obtain ⟨ex,env3,p3,_,e11,s3⟩:=X_ok hm hT cb hob h3
 rw [e11] at h3 ⊢
 unfold endR at h3 ⊢
 obtain ⟨st,hg3,e12⟩:=rndK_inv h3
 rw [e12]
 have hend:(Ex.rec (motive:=fun _=>AN) (putK p3 j (some (.rnd 0)) (fun p=>k [.bool true] p)) (fun i=>putK p3 j (some (.rnd (Nat.add i 3))) (fun p=>k [.bool false] p)) (putK p3 j (some (.rnd 2)) (fun p=>k [.bool false] p)) ex)=k [.bool ex.isNormal] (p3.put j (some (.rnd ex.code))):=by
  cases ex<;>exact putK_eq _ _ _ _
 rw [hend]
 refine ⟨_,_,rfl,fun h F' σ args' hr ha=> ?_⟩
 simp only [Rs] at ha
 obtain ⟨_,_,rfl,b1,_,fr',rfl,b2,b3⟩:=ha
 simp only [Rv] at b1 b2
 obtain ⟨j',hj,rfl⟩:=b1
 obtain ⟨vals',rfl,b2⟩:=b2
 obtain ⟨g1,g2,_⟩:=hr.rnd hj hfl hg 1
 have hlen':vals'.length=rd.ps.length:=by rw [b2.length];exact hlen
 have hfr:Rs h F' σ (V.mk N env0) fr':=by
  refine .of_getD (by rw [b3.length,mk_length,hN]) fun t=> ?_
  have hgt:=b3.getD t
  by_cases ht:t<N
  ·rw [mk_getD ht]
   rcases hun t with e|e
   ·rw [e];simp only [Rv]
   ·rw [e];exact hgt
  ·have e1:(V.mk N env0).getD t .undef =fr.getD t .undef :=by
    simp [V.mk,List.getD_eq_getElem?_getD,ht,List.getElem?_eq_none (show fr.length≤t by omega)]
   rw [e1];exact hgt
 have hst:=setAllR' rd.ps b2 hfr
 rw [hset] at hst
 obtain ⟨n,fr1',h1,F1,σ1,x1,t1,r1⟩:=s1 h F' σ _ hr hst
 rw [hca] at x1
 have hj1:σ1 j=some j':=t1.sg _ _ hj
 have hfl1:p1.floor≤j:=by rw [t1.pe.floor];exact hfl
 obtain ⟨g3,_,t2⟩:=t1.hr.rnd hj1 hfl1 hg1 1
 obtain ⟨m,fr2',h2',F2,σ2,x2,t3,r2⟩:=s3 _ F1 σ1 fr1' t2.hr (t2.rs r1)
 rw [hcb] at x2
 have hj2:σ2 j=some j':=t3.sg _ _ hj1
 have hfl3:p3.floor≤j:=by rw [t3.pe.floor,t2.pe.floor];exact hfl1
 obtain ⟨g4,_,t4⟩:=t3.hr.rnd hj2 hfl3 hg3 ex.code
 refine ⟨max n m,.bool ex.isNormal,_,F2,σ2,?_,((t1.trans t2).trans t3).trans t4,by simp only [resultOf,Rv]⟩
 unfold run callF
 rw [hp];simp only;rw [hf];simp only
 rw [if_neg (Nat.not_lt.2 (Nat.le_add_right big r)),Nat.add_sub_cancel_left,hrd]
 simp only
 unfold roundF
 rw [if_pos ⟨hlen',g2⟩,g1]
 simp only
 rw [exec_mono (Nat.le_max_left n m) _ _ _ _ x1]
 simp only
 rw [g3]
 simp only
 rw [exec_mono (Nat.le_max_right n m) _ _ _ _ x2]
 simp only
 rw [g4]
abbrev fnS (v : Val) (g : FuncId) (k : List Val → List Val → AN) : AN := View.rec (motive := fun _ => AN) n1 n2 n1 n2 n2 n5 n3 .no (fun f a c => match f with
  | .func x=>ifS (Nat.beq x g) (k a c)
  |_=>.no) n1 n1 .no .no .no (viewC v)
theorem fnS_inv {v:Val} {g:FuncId} {k:List Val→List Val→AN} (h:fnS v g k≠.no): ∃ a c,v=.func (.func g) a c∧fnS v g k=k a c:=by
 cases v with
 |func f a c=>
  cases f with
  |func x=>
   have h':ifS (Nat.beq x g) (k a c)≠.no :=h
   obtain ⟨h1,h2⟩:=ifS_inv h'
   have:=Nat.eq_of_beq_eq_true h1
   subst this
   exact ⟨a,c,rfl,h2⟩
  |_=>exact absurd rfl h
 |_=>exact absurd rfl h
def apV (a b:List Val):List Val:=List.rec (motive:=fun _=>List Val) b (fun x _ ih=>x::ih) a
theorem apV_eq (b:List Val): ∀ a:List Val,apV a b=a++b
 |[]=>rfl
 |x::a=>congrArg (x:: ·) (apV_eq b a)
abbrev dfK (nor:List (Nat×Val)→Heap→AN):EK:=fun ex env p=>Ex.rec (motive:=fun _=>AN) (nor env p) n1 (nor env p) ex
theorem dfK_inv {nor:List (Nat×Val)→Heap→AN} {ex:Ex} {env:List (Nat×Val)} {p:Heap} (h:dfK nor ex env p≠.no):(∀ i,ex≠.exit i)∧dfK nor ex env p=nor env p:=by
 cases ex with
 |exit i=>exact absurd rfl h
 |normal=>exact ⟨fun i q=>(by cases q),rfl⟩
 |ret=>exact ⟨fun i q=>(by cases q),rfl⟩
theorem FO.dfr {E:Env} {f g:FuncId} {df:DFn} {vg:VFn} {T:List Ce} {fu np ng:Nat} {F:FT} (hm:MethSim E.meth) (hT:TOk E T) (hd:E.dfr f=some df) (hp:E.prims f=none) (hf:E.fns f=none) (hb:f<big) (hpg:E.prims g=none) (hvg:E.fns g=some vg) (hpl:vg.body.plain=true) (c1 c2 c3:AC) (h1c:c1.vc=df.pre) (h2c:c2.vc=df.body) (h3c:c3.vc=vg.body) (ho:(c1.ok&&(c2.ok&&c3.ok))=true) (hn:np≤df.ntmps) (hng:ng≤vg.ntmps)
    (hF: ∀ p args k,F p args k=agX np 0 args (fun env=>X E.meth T df.ntmps fu c1 env p (fun ex env1 p1=>Ex.rec (motive:=fun _=>AN) (fnS (evE df.ntmps env1 (.t df.t)) g (fun a c=>X E.meth T df.ntmps fu c2 env1 p1 (dfK (fun env2 p2=>agX ng 0 (apV a c) (fun env3=>X E.meth T vg.ntmps fu c3 env3 p2 (dfK (fun env4 p3=>rdX vg.ntmps vg.results env4 p3 (fun _=>rdX df.ntmps df.results env2 p3 (fun l=>k l p3))))))))) n1 .no ex))):FO E f F:=by
  intro p args k h
  rw [hF] at h ⊢
  simp only [Bool.and_eq_true] at ho
  obtain ⟨hl,e1⟩:=agX_inv np 0 args h
  rw [e1] at h ⊢
  obtain ⟨ex,env1,p1,_,e2,s1⟩:=X_ok hm hT c1 ho.1 h
  rw [e2] at h ⊢
  cases ex with
  |exit i=>exact absurd rfl h
  |ret=>exact absurd rfl h
  |normal=>
  obtain ⟨a,c,hv,e3⟩:=fnS_inv h
  have h0:=fun q=>h (e3.trans q)
  obtain ⟨ex2,env2,p2,_,e4,s2⟩:=X_ok hm hT c2 ho.2.1 h0
  rw [e4] at h0
  obtain ⟨hx2,e5⟩:=dfK_inv h0
  rw [e5,apV_eq] at h0
  obtain ⟨hlg,e6⟩:=agX_inv ng 0 (a++c) h0
  rw [e6] at h0
  obtain ⟨ex3,env4,p3,_,e7,s3⟩:=X_ok hm hT c3 ho.2.2 h0
  rw [e7] at h0
  obtain ⟨hx3,e8⟩:=dfK_inv h0
  rw [e8] at h0
  obtain ⟨l1,hl1,e9⟩:=rdX_inv vg.results h0
  rw [e9] at h0
  obtain ⟨l2,hl2,e10⟩:=rdX_inv df.results h0
  refine ⟨l2,p3,?_,fun h F' σ args' hr ha=> ?_⟩
  · refine e3.trans (e4.trans (e5.trans ?_))
    rw [apV_eq]
    exact e6.trans (e7.trans (e8.trans (e9.trans e10)))
  obtain ⟨n,fr1',h1,F1,σ1,x1,t1,r1⟩:=s1 h F' σ _ hr (ha.enter (by omega))
  have hcl:=r1.getD df.t
  have hv':(V.mk df.ntmps env1).getD df.t .undef =.func (.func g) a c:=by rw [evE_eq] at hv;exact hv
  rw [hv'] at hcl
  simp only [Rv] at hcl
  obtain ⟨fi,ca,hcl,rf,rc⟩:=hcl
  obtain ⟨m,fr2',h2,F2,σ2,x2,t2,r2⟩:=s2 h1 F1 σ1 fr1' t1.hr r1
  obtain ⟨q,fr3',h3,F3,σ3,x3,t3,r3⟩:=s3 h2 F2 σ2 _ t2.hr (((t2.rs rf).append (t2.rs rc)).enter (by omega))
  obtain ⟨l1',hl1',_⟩:=readResultsR t3.hr r3 vg.results hl1
  obtain ⟨l2',hl2',rl⟩:=readResultsR t3.hr (t3.rs r2) df.results hl2
  rw [h1c] at x1
  rw [h2c] at x2
  rw [h3c] at x3
  refine ⟨max n (max m q),_,h3,F3,σ3,?_,(t1.trans t2).trans t3,resultOfR rl⟩
  unfold run callF
  rw [hp];simp only;rw [hf];simp only
  rw [if_pos hb,hd]
  simp only
  unfold deferF
  rw [exec_mono (Nat.le_max_left n _) _ _ _ _ x1]
  simp only
  rw [hcl]
  simp only
  rw [hpg,hvg]
  simp only
  have x2':=exec_mono (Nat.le_trans (Nat.le_max_left m q) (Nat.le_max_right n _)) _ _ _ _ x2
  have x3':=exec_mono (Nat.le_trans (Nat.le_max_right m q) (Nat.le_max_right n _)) _ _ _ _ x3
  rw [x2']
  have main : (match exec E (max n (max m q)) vg.body (enter vg.ntmps (fi ++ ca)) h2 with
      |some (.exit _,_,_)=>none
      |some (_,fr3,h3)=>match vg.body.plain,readResults fr3 h3 vg.results,readResults fr2' h3 df.results with
        |true,some _,some l=>some (resultOf l,h3)
        |_,_,_=>none
      |none=>none)=some (resultOf l2',h3):=by
    rw [x3']
    cases ex3 with
    |exit i=>exact absurd rfl (hx3 i)
    |normal=>simp only;rw [hpl,hl1',hl2']
    |ret=>simp only;rw [hpl,hl1',hl2']
  cases ex2 with
  |exit i=>exact absurd rfl (hx2 i)
  |normal=>exact main
  |ret=>exact main
theorem tnil {E:Env}:TOk E []:=fun e h=>by cases h
theorem tcons {E:Env} {e:Ce} {T:List Ce} (h:CallOk E e.f e.c) (t:TOk E T):TOk E (e::T):=fun x hx=>by
 rcases List.mem_cons.1 hx with rfl|hx
 ·exact h
 ·exact t x hx
def fuel:Nat:=nat_lit 1000000
def depth:Nat:=nat_lit 10000
def isOk (a:AN):Bool:=AN.rec (motive:=fun _=>Bool) false (fun _ _=>true) a
end
end Go.V
end
section
namespace Go.V
def rndsL:VC→List (Nat×Rnd)
 | .seq a b=>rndsL a++rndsL b
 | .cond _ a b=>rndsL a++rndsL b
 | .block _ a=>rndsL a
 | .loop a=>rndsL a
 | .range _ r ps a b=>[(r,⟨ps,a,b⟩)]
 |_=>[]
def lookR (r:Nat):List (Nat×Rnd)→Option Rnd
 |[]=>none
 |(i,x)::l=>if i=r then some x else lookR r l
def uniqR:List (Nat×Rnd)→Bool
 |[]=>true
 |(i,_)::l=>l.all (fun y=>decide (y.1≠i))&&uniqR l
theorem lookR_mem: ∀ {l:List (Nat×Rnd)} {r:Nat} {x:Rnd},uniqR l=true→(r,x)∈l→lookR r l=some x
 |[],_,_,_,h=>by cases h
 |(i,y)::l,r,x,u,h=>by
  simp only [uniqR,Bool.and_eq_true,List.all_eq_true,decide_eq_true_eq] at u
  rcases List.mem_cons.1 h with h|h
  ·cases h;simp [lookR]
  ·have:=u.1 _ h
   simp only [lookR]
   rw [if_neg (fun q=>this q.symm)]
   exact lookR_mem u.2 h
theorem known_of {E:Env}: ∀ c:VC,(∀ r x,(r,x)∈rndsL c→E.rnd r=some x)→c.known E
 | .seq a b,h=>⟨known_of a fun r x q=>h r x (List.mem_append.2 (.inl q)),known_of b fun r x q=>h r x (List.mem_append.2 (.inr q))⟩
 | .cond _ a b,h=>⟨known_of a fun r x q=>h r x (List.mem_append.2 (.inl q)),known_of b fun r x q=>h r x (List.mem_append.2 (.inr q))⟩
 | .block _ a,h=>known_of a h
 | .loop a,h=>known_of a h
 | .range _ r ps a b,h=>h r _ (List.mem_singleton.2 rfl)
 | .skip,_=>trivial
 | .exit _,_=>trivial
 | .region _,_=>trivial
 | .draw _,_=>trivial
 | .ret,_=>trivial
noncomputable def fnP (P:Program) (n:Nat) (f:FuncId):Option VFn:=if f<n then match P.funcs[f]? with
 |some fn=>match cFn P (some (1000*f)) fn with
  |some vf=>if (uniqR (rndsL vf.body)&&(rndsL vf.body).all (fun y=>decide (y.1/1000=f)))=true then some vf else none
  |none=>none
 |none=>none else none
noncomputable def rnP (P:Program) (n:Nat) (r:Nat):Option Rnd:=match fnP P n (r/1000) with
 |some vf=>lookR r (rndsL vf.body)
 |none=>none
noncomputable def dfP (P:Program) (n:Nat) (f:FuncId):Option DFn:=if f<n then match P.funcs[f]? with
 |some fn=>match fnP P n f with
  |some _=>none
  |none=>cDfn P fn
 |none=>none else none
noncomputable def mtP (P:Program) (n:Nat) (t:TypeId) (name:String):Option FuncId:=match P.info? t with
 |some i=>match i.methods.find? (·.name ==name) with
  |some m=>match m.func,P.underlying t with
   |some (_,true),_=>none
   |some (_,false),none=>none
   |some (_,false),some (.pointer _)=>none
   |some (f,false),some _=>if (m.path.toList.isEmpty&&Nat.ble (Nat.succ f) n)=true then some f else none
   |none,_=>none
  |none=>none
 |none=>none
noncomputable def mtW (P:Program) (n:Nat) (t:TypeId) (v:Val) (name:String):Option (FuncId×Val):=match mtP P n t name with
 |some f=>some (f,v)
 |none=>none
theorem mtP_spec {P:Program} {n:Nat} {t:TypeId} {name:String} {f:FuncId} (h:mtP P n t name=some f):f<n∧ ∃ i m d,P.info? t=some i∧i.methods.find? (·.name ==name)=some m∧m.func=some (f,false)∧P.underlying t=some d∧(∀ e,d≠.pointer e)∧m.path.toList=[]:=by
 unfold mtP at h
 split at h
 ·rename_i i hi
  split at h
  ·rename_i m hm
   split at h
   ·cases h
   ·cases h
   ·cases h
   ·rename_i f' d hnp hf hd
    split at h
    ·rename_i hc
     cases h
     simp only [Bool.and_eq_true,List.isEmpty_iff] at hc
     exact ⟨Nat.le_of_ble_eq_true hc.2,i,m,d,hi,hm,hf,hd,fun e q=>hnp e (by rw [q]),hc.1⟩
    ·cases h
   ·cases h
  ·cases h
 ·cases h
theorem mtW_sound [Gd] {P:Program} {n:Nat} (hn:n≤big):MethSound P (mtW P n):=by
 intro t v name f r h
 unfold mtW at h
 split at h
 ·rename_i f' hq
  cases h
  obtain ⟨h1,i,m,d,hi,hm,hf,hd,hp,hpa⟩:=mtP_spec hq
  refine ⟨Nat.lt_of_lt_of_le h1 hn,fun ρ vv w hv=>⟨⟨vv,?_,hv⟩,?_⟩⟩
  ·obtain ⟨k,hk⟩: ∃ k,P.types.size+Made.depth=k+1:=⟨P.types.size+99,rfl⟩
   rw [hk]
   generalize k=k
   cases d with
   |pointer e=>exact absurd rfl (hp e)
   |_=>simp [method,run_typeInfo_of hi,hm,hpa,follow,hf,receiverAt,run_underlying hd,Place.get]
  ·obtain ⟨k,hk⟩: ∃ k,P.types.size+Made.depth=k+1:=⟨P.types.size+99,rfl⟩
   rw [hk]
   generalize k=k
   cases d with
   |pointer e=>exact absurd rfl (hp e)
   |_=>simp [nilAhead,run_typeInfo_of hi,hm,hpa,followBlind,hf,run_underlying hd]
 ·cases h
theorem mtW_sim {P:Program} {n:Nat}:MethSim (mtW P n):=by
 intro h F σ t v v' name f r hv e
 unfold mtW at e ⊢
 split at e
 ·rename_i f' hq
  cases e
  exact ⟨v',rfl,hv⟩
 ·cases e
noncomputable def EW (P:Program) (n:Nat):Env:=⟨fnP P n,fun _=>none,mtW P n,rnP P n,dfP P n⟩
noncomputable def nameB (P:Program) (n:Nat):Bool:=(List.range n).all fun f=>match P.funcs[f]? with
 |some fn=> !(fn.name== "runtime.NumGoroutine")
 |none=>true
theorem fnP_spec {P:Program} {n f:Nat} {vf:VFn} (h:fnP P n f=some vf):f<n∧ ∃ fn,P.funcs[f]? =some fn∧cFn P (some (1000*f)) fn=some vf∧uniqR (rndsL vf.body)=true∧ ∀ y∈rndsL vf.body,y.1/1000=f:=by
 unfold fnP at h
 split at h
 ·rename_i hf
  split at h
  ·rename_i fn h1
   split at h
   ·rename_i v h2
    split at h
    ·rename_i h3
     cases h
     simp only [Bool.and_eq_true,List.all_eq_true,decide_eq_true_eq] at h3
     exact ⟨hf,fn,h1,h2,h3.1,h3.2⟩
    ·cases h
   ·cases h
  ·cases h
 ·cases h
theorem nameB_spec {P:Program} {n f:Nat} {fn:Func} (h:nameB P n=true) (hf:f<n) (e:P.funcs[f]? =some fn):(fn.name== "runtime.NumGoroutine")=false:=by
 unfold nameB at h
 rw [List.all_eq_true] at h
 have:=h f (List.mem_range.2 hf)
 rw [e] at this
 simpa using this
theorem envW (P:Program) (n:Nat) (hn:n≤big) (hk:nameB P n=true): @EnvOk (gdOf P (EW P n)) P (EW P n):=by
 letI:=gdOf P (EW P n)
 refine ⟨mtW_sound hn,?_,fun f p h=>(by cases h),?_,fun e=>Iff.rfl,fun r ps x y=>Iff.rfl⟩
 ·intro f vf h
  obtain ⟨h1,fn,h2,h3,h4,h5⟩:=fnP_spec h
  have hb:fn.body.isSome=true:=by
   unfold cFn at h3
   cases e:fn.body with
   |none=>rw [e] at h3;cases h3
   |some c=>rfl
  refine ⟨Nat.lt_of_lt_of_le h1 hn,fn,_,⟨h2,hb,nameB_spec hk h1 h2⟩,h3,known_of _ fun r x hr=> ?_⟩
  show rnP P n r=some x
  unfold rnP
  have:=h5 _ hr
  simp only at this
  rw [this,show fnP P n f=some vf from h]
  exact lookR_mem h4 hr
 ·intro f df h
  have h':dfP P n f=some df:=h
  unfold dfP at h'
  split at h'
  ·rename_i hf
   split at h'
   ·rename_i fn h2
    split at h'
    ·cases h'
    ·have hb:fn.body.isSome=true:=by
      unfold cDfn at h'
      cases e:fn.body with
      |none=>rw [e] at h';cases h'
      |some c=>rfl
     exact ⟨Nat.lt_of_lt_of_le hf hn,fn,⟨h2,hb,nameB_spec hk hf h2⟩,h'⟩
   ·cases h'
  ·cases h'
noncomputable section
def tru (v:Val):Bool:=View.rec (motive:=fun _=>Bool) (fun b=>b) (fun _ _=>false) (fun _=>false) (fun _ _=>false) (fun _ _=>false) (fun _ _ _ _ _=>false) (fun _ _ _=>false) false (fun _ _ _=>false) (fun _=>false) (fun _=>false) false false false (viewC v)
theorem tru_eq {v:Val} (h:tru v=true):v=.bool true:=by
 cases v with
 |bool b=>cases b with
  |true=>rfl
  |false=>cases h
 |_=>cases h
def lawK (F:FT):AN:=F heapK [] (fun r _=>.ok false r)
def isT (a:AN):Bool:=AN.rec (motive:=fun _=>Bool) false (fun _ l=>List.rec (motive:=fun _=>Bool) false (fun v r _=>List.rec (motive:=fun _=>Bool) (tru v) (fun _ _ _=>false) r) l) a
theorem isT_eq {a:AN} (h:isT a=true): ∃ s,a=.ok s [.bool true]:=by
 cases a with
 |no=>cases h
 |ok s l=>cases l with
  |nil=>cases h
  |cons v r=>cases r with
   |cons _ _=>cases h
   |nil=>exact ⟨s,by rw [tru_eq (show tru v=true from h)]⟩
theorem law_run {E:Env} {f:FuncId} {F:FT} (hF:FO E f F) (h:isT (lawK F)=true): ∃ n h2,run E n f [] heap0=some (.bool true,h2):=by
 obtain ⟨s,e⟩:=isT_eq h
 obtain ⟨r,p',h1,h2⟩:=hF heapK [] (fun r _=>.ok false r) (by rw [show F heapK [] _=_ from e];intro q;cases q)
 have e':lawK F=.ok false r:=h1
 rw [e] at e'
 cases e'
 obtain ⟨n,v',h',F2,σ2,e2,_,rv⟩:=h2 heap0 _ _ [] (HR.self (fun b _=>by cases b<;>rfl) (fun b _=>rfl) (Nat.le_refl _) (fun b k q=>by rw [show heapK=heap0 from rfl,heap0_get] at q;cases q)) (.self [] (by simp [Val.liesL]))
 exact ⟨n,h',by rw [e2,Rv.bool_eq rv]⟩
end
end Go.V
end
section
namespace Go.V
noncomputable section
def outA (u:List Nat) (p:Heap) (r:List Val):AN:=List.rec (motive:=fun _=>AN) (outK false p r (fun l=>.ok false l)) (fun _ _ _=>orA (outK true p r (fun l=>.ok true l)) (outK false p r (fun l=>.ok false l))) u
theorem outA_inv {u:List Nat} {p:Heap} {r:List Val} {st:Bool} {l:List Val} (e:outA u p r=.ok st l):outO st p r=some l:=by
 have key: ∀ s:Bool,outK s p r (fun l=>.ok s l)=.ok st l→outO st p r=some l:=by
  intro s h3
  obtain ⟨l',h4,h5⟩:=outK_inv (k:=fun l=>.ok s l) (by rw [h3];intro q;cases q)
  rw [h5] at h3
  cases h3
  exact h4
 cases u with
 |nil=>exact key false e
 |cons b u=>
  have e':orA (outK true p r (fun l=>.ok true l)) (outK false p r (fun l=>.ok false l))=.ok st l:=e
  cases h3:outK true p r (fun l=>.ok true l) with
  |no=>
   rw [h3] at e'
   exact key false e'
  |ok s' l'=>
   rw [h3] at e'
   have h4:AN.ok s' l'=.ok st l:=e'
   cases h4
   exact key true h3
def cn1 (p:Heap) (k:Val→Heap→AN) (u:List Nat) (r:List Val) (p':Heap):AN:=List.rec (motive:=fun _=>AN) (outK false p' r (fun l=>otcK false l p [] k)) (fun _ _ _=>anK (outA u p' r) (fun st l=>otcK st l p u k)) u
def cn (F:FT):CK:=fun p args k=>resK p false args (fun a u=>F heapK a (cn1 p k u))
theorem cn1_inv {p:Heap} {k:Val→Heap→AN} {u:List Nat} {r:List Val} {p':Heap} (h:cn1 p k u r p'≠.no): ∃ st l,outO st p' r=some l∧cn1 p k u r p'=otcK st l p u k:=by
 cases u with
 |nil=>
  have e:cn1 p k [] r p'=outK false p' r (fun l=>otcK false l p [] k):=rfl
  rw [e] at h ⊢
  obtain ⟨l,h1,h2⟩:=outK_inv h
  exact ⟨false,l,h1,h2⟩
 |cons b u=>
  have e:cn1 p k (b::u) r p'=anK (outA (b::u) p' r) (fun st l=>otcK st l p (b::u) k):=rfl
  rw [e] at h ⊢
  obtain ⟨st,l,h1,h2⟩:=anK_inv h
  exact ⟨st,l,outA_inv h1,h2⟩
theorem cn_ok {E:Env} {f:FuncId} {F:FT} (hF:FO E f F):CallOk E f (cn F):=by
 intro p args k h
 unfold cn at h ⊢
 obtain ⟨a,u,h1,h2⟩:=resK_inv h
 rw [h2] at h ⊢
 obtain ⟨r,p',h3,h4⟩:=hF heapK a _ h
 rw [h3] at h ⊢
 obtain ⟨st,l,h5,h6⟩:=cn1_inv h
 rw [h6] at h ⊢
 obtain ⟨v,q',h7,h8⟩:=otcK_inv h
 have pc:PC E f a st l:=by
  refine ⟨⟨fun h F' σ args' ks' hr ha hk=> ?_⟩⟩
  obtain ⟨n,v',h',F2,σ2,e2,s,rv⟩:=h4 h F' σ args' hr ha
  exact ⟨n,v',h',_,[],p',F2,σ2,e2,s.far,s.hr,rv,hk,r,rfl,h5⟩
 exact ⟨v,q',h8,fun h F' σ args' hr ha=>pc.sim hr ha h1 h7⟩
end
end Go.V
end
section
set_option maxRecDepth 100000
namespace Go.V
open Go.Proofs
noncomputable section
noncomputable def prog:Program:=Tryz.prog
noncomputable def NF:Nat:=nat_lit 316
noncomputable def EN:Env:=EW prog NF
theorem msP:MethSim EN.meth:=mtW_sim
noncomputable def mth:=EN.meth
noncomputable def vv (f:Nat):VFn:=(fnP prog NF f).getD ⟨nat_lit 0,[],.skip⟩
noncomputable def rr (r:Nat):Rnd:=(rnP prog NF r).getD ⟨[],.skip,.skip⟩
noncomputable def dd (f:Nat):DFn:=(dfP prog NF f).getD ⟨nat_lit 0,[],.skip,nat_lit 0,.skip⟩
theorem some_getD {α:Type} {o:Option α} {d:α} (h:o.isSome=true):o=some (o.getD d):=by
 cases o with
 |none=>cases h
 |some x=>rfl
noncomputable def okV (f np:Nat) (nt:Nts):Bool:=(fnP prog NF f).isSome &&((ann (vv f).body nt).1.ok &&Nat.ble np (vv f).ntmps)
theorem tc {f:FuncId} {c:CK} {T:List Ce} (h:CallOk EN f c) (t:TOk EN T):TOk EN (⟨f,c⟩::T):=tcons h t
theorem fe {f:Nat} (np:Nat) {T:List Ce} {F:FT} (hT:TOk EN T) (nt:Nts) (h:okV f np nt=true) (hF: ∀ p args k,F p args k=agX np 0 args (fun env=>X EN.meth T (vv f).ntmps fuel (ann (vv f).body nt).1 env p (endX (vv f).ntmps (vv f).results k))):FO EN f F:=by
 simp only [okV,Bool.and_eq_true] at h
 exact FO.fn msP hT (some_getD h.1) rfl _ (ann_vc _ _) h.2.1 (Nat.le_of_ble_eq_true h.2.2) hF
noncomputable def okR (r:Nat) (na nb:Nts):Bool:=(rnP prog NF r).isSome &&((ann (rr r).a na).1.ok &&(ann (rr r).b nb).1.ok)
theorem fnP_big (r:Nat):EN.fns (big+r)=none:=by
 show fnP prog NF (big+r)=none
 unfold fnP
 rw [if_neg]
 have h:NF≤big:=Nat.le_of_ble_eq_true rfl
 exact fun q=>absurd (Nat.lt_of_lt_of_le q h) (Nat.not_lt.2 (Nat.le_add_right big r))
theorem re {r N:Nat} {T:List Ce} {L:List Nat} {F:FT} (hT:TOk EN T) (na nb:Nts) (h:okR r na nb=true) (hF: ∀ p args k,F p args k=rdF EN.meth T N fuel (rr r).ps L (ann (rr r).a na).1 (ann (rr r).b nb).1 p args k):FO EN (big+r) F:=by
 simp only [okR,Bool.and_eq_true] at h
 exact FO.rd msP hT (some_getD h.1) rfl (fnP_big r) _ _ (ann_vc _ _) (ann_vc _ _) h.2.1 h.2.2 hF
noncomputable def okD (f g np ng:Nat) (n1 n2 n3:Nts):Bool:=(dfP prog NF f).isSome &&((fnP prog NF f).isNone &&((fnP prog NF g).isSome &&((vv g).body.plain &&(((ann (dd f).pre n1).1.ok &&((ann (dd f).body n2).1.ok &&(ann (vv g).body n3).1.ok))&&(Nat.ble np (dd f).ntmps &&(Nat.ble ng (vv g).ntmps &&Nat.ble (Nat.succ f) big))))))
theorem de {f g np ng:Nat} {T:List Ce} {F:FT} (hT:TOk EN T) (m1 m2 m3:Nts) (h:okD f g np ng m1 m2 m3=true)
  (hF: ∀ p args k,F p args k=agX np 0 args (fun env=>X EN.meth T (dd f).ntmps fuel (ann (dd f).pre m1).1 env p (fun ex env1 p1=>Ex.rec (motive:=fun _=>AN) (fnS (evE (dd f).ntmps env1 (.t (dd f).t)) g (fun a c=>X EN.meth T (dd f).ntmps fuel (ann (dd f).body m2).1 env1 p1 (dfK (fun env2 p2=>agX ng 0 (apV a c) (fun env3=>X EN.meth T (vv g).ntmps fuel (ann (vv g).body m3).1 env3 p2 (dfK (fun env4 p3=>rdX (vv g).ntmps (vv g).results env4 p3 (fun _=>rdX (dd f).ntmps (dd f).results env2 p3 (fun l=>k l p3))))))))) n1 .no ex))):FO EN f F:=by
 simp only [okD,Bool.and_eq_true] at h
 obtain ⟨h1,h2,h3,h4,⟨h5,h6,h7⟩,h8,h9,h10⟩:=h
 have hf:EN.fns f=none:=by
  show fnP prog NF f=none
  cases e:fnP prog NF f with
  |none=>rfl
  |some x=>rw [e] at h2;cases h2
 exact FO.dfr msP hT (some_getD h1) rfl hf (Nat.le_of_ble_eq_true h10) rfl (some_getD h3) h4 _ _ _ (ann_vc _ _) (ann_vc _ _) (ann_vc _ _) (Bool.and_eq_true_iff.2 ⟨h5,Bool.and_eq_true_iff.2 ⟨h6,h7⟩⟩) (Nat.le_of_ble_eq_true h8) (Nat.le_of_ble_eq_true h9) hF
end
end Go.V
end
section
namespace Go.V
def isCall:VOp→Bool
 | .call .. | .callv .. | .invoke .. =>true
 |_=>false
def opG (m:TypeId→Val→String→Option (FuncId×Val)) (fr:List Val) (p:Heap) (o:VOper) (K:List Val→Heap→Prop):Prop:=
 match wanted fr o.guard with
 |some true=>match step m dead fr p o.op with
  |some (v,p')=>nojunk fr o.op=true∧K (setDst fr o.dst v) p'
  |none=>False
 |some false=>K (setDst fr o.dst .undef) p
 |none=>False
def goG (E:Env) (l:List VOper) (fr:List Val) (ks:List (List Val)) (p:Heap) (R:OQ):Prop:=
 match l with
 |[]=>R fr ks p
 |o::r=>if isCall o.op then GO E (o::r) fr ks p R else opG E.meth fr p o fun fr p=>goG E r fr ks p R
theorem GO.of {E:Env} (hm:MethSim E.meth): ∀ {l:List VOper} {fr:List Val} {ks:List (List Val)} {p:Heap} {R:OQ},(l.all fun o=>o.op.ok)=true→goG E l fr ks p R→GO E l fr ks p R
 |[],fr,ks,p,R,_,w=>.nil w
 |o::r,fr,ks,p,R,ho,w=>by
  simp only [List.all_cons,Bool.and_eq_true] at ho
  unfold goG at w
  split at w
  ·exact w
  ·unfold opG at w
   split at w
   ·rename_i hg
    split at w
    ·rename_i v p' hs
     exact .op hm hg hs w.1 (.of hm ho.2 w.2) ho.1
    ·exact w.elim
   ·rename_i hg
    exact .not hg (.of hm ho.2 w)
   ·exact w.elim
theorem goG_nil {E:Env} {fr:List Val} {ks:List (List Val)} {p:Heap} {R:OQ}:goG E [] fr ks p R=R fr ks p:=by unfold goG;rfl
theorem goG_cons {E:Env} {o:VOper} {r:List VOper} {fr:List Val} {ks:List (List Val)} {p:Heap} {R:OQ}:goG E (o::r) fr ks p R=if isCall o.op=true then GO E (o::r) fr ks p R else opG E.meth fr p o fun fr p=>goG E r fr ks p R:=by
 rw [goG.eq_def]
section
variable {E:Env} {fr:List Val} {ks:List (List Val)} {p:Heap} {Q:EQ}
theorem GE.seqR {l:List VOper} {b:VC} (hm:MethSim E.meth) (w:goG E l fr ks p fun fr ks p=>GE E b fr ks p Q) (ho:(l.all fun o=>o.op.ok)=true):GE E (.seq (.region l) b) fr ks p Q:=.seq (.region (.of hm ho w))
theorem GE.reg {l:List VOper} (hm:MethSim E.meth) (w:goG E l fr ks p (Q .normal)) (ho:(l.all fun o=>o.op.ok)=true):GE E (.region l) fr ks p Q:=.region (.of hm ho w)
theorem GE.seqSkip {b:VC} (w:GE E b fr ks p Q):GE E (.seq .skip b) fr ks p Q:=.seq (.skip w)
theorem GE.seqRet {b:VC} (w:Q .ret fr ks p):GE E (.seq .ret b) fr ks p Q:=.seq (.ret w)
theorem GE.seqExit {i:Nat} {b:VC} (w:Q (.exit i) fr ks p):GE E (.seq (.exit i) b) fr ks p Q:=.seq (.exit w)
theorem GE.assoc {a b c:VC} (w:GE E (.seq a (.seq b c)) fr ks p Q):GE E (.seq (.seq a b) c) fr ks p Q:=by
 obtain ⟨w⟩:=w
 refine ⟨fun h F σ fr' ks' ha hb hc=> ?_⟩
 obtain ⟨n,ex,fr2',h2,fr3,ks3,p3,F3,σ3,e,f⟩:=w h F σ fr' ks' ha hb hc
 refine ⟨n+2,ex,fr2',h2,fr3,ks3,p3,F3,σ3,?_,f⟩
 cases n with
 |zero=>simp [exec] at e
 |succ n=>
  rw [exec] at e
  rw [exec]
  split at e
  ·rename_i f1 h1 e1
   cases n with
   |zero=>simp [exec] at e
   |succ n=>
    rw [exec] at e
    have e1':exec E (n+2) a fr' h=some (.normal,f1,h1):=exec_mono (by omega) _ _ _ _ e1
    split at e
    ·rename_i f2 hh2 e2
     have:exec E (n+1+1+1) (.seq a b) fr' h=some (.normal,f2,hh2):=by rw [exec,e1'];exact exec_mono (by omega) _ _ _ _ e2
     rw [this]
     exact exec_mono (by omega) _ _ _ _ e
    ·rename_i hne
     have:exec E (n+1+1+1) (.seq a b) fr' h=some (ex,fr2',h2):=by rw [exec,e1'];exact exec_mono (by omega) _ _ _ _ e
     rw [this]
     cases ex with
     |normal=>exact absurd e (hne _ _)
     |_=>rfl
  ·rename_i hne
   have:exec E (n+1+1) (.seq a b) fr' h=some (ex,fr2',h2):=by
    rw [exec,exec_mono (Nat.le_succ n) _ _ _ _ e]
    cases ex with
    |normal=>exact absurd e (hne _ _)
    |_=>rfl
   rw [this]
   cases ex with
   |normal=>exact absurd e (hne _ _)
   |_=>rfl
theorem GE.condT {c:Opd} {a b:VC} (hc:V.ev fr c=.bool true) (w:GE E a fr ks p Q) (hk:c.ok=true):GE E (.cond c a b) fr ks p Q:=.cond (t:=true) hc w hk
theorem GE.condF {c:Opd} {a b:VC} (hc:V.ev fr c=.bool false) (w:GE E b fr ks p Q) (hk:c.ok=true):GE E (.cond c a b) fr ks p Q:=.cond (t:=false) hc w hk
def condG (E:Env) (c:Opd) (a b:VC) (fr:List Val) (ks:List (List Val)) (p:Heap) (Q:EQ):Prop:=match V.ev fr c with
 | .bool t=>(t=true→GE E a fr ks p Q)∧(t=false→GE E b fr ks p Q)
 |_=>False
theorem GE.seqBlock {i:Nat} {a k:VC} (w:GE E a fr ks p (gblockQ i (gseqQ E k Q))):GE E (.seq (.block i a) k) fr ks p Q:=.seq (.block w)
def roundQ {α:Type} (n:Nat) (S:α→List (Nat×Val)) (H:α→Heap) (ks:List (List Val)) (inv:α→Prop) (μ:α→Nat) (m:Nat) (Q:EQ):EQ
 | .normal,fr',ks',p'=> ∃ s,inv s∧μ s<m∧Weak fr' ks' p' (mk n (S s)) ks (H s)
 |ex,fr',ks',p'=>Q ex fr' ks' p'
theorem GE.rounds {α:Type} {n:Nat} (S:α→List (Nat×Val)) (H:α→Heap) (inv:α→Prop) (μ:α→Nat) {a:VC} (hs: ∀ s,inv s→GE E a (V.mk n (S s)) ks (H s) (roundQ n S H ks inv μ (μ s) Q)) (s:α) (hi:inv s):GE E (.loop a) (V.mk n (S s)) ks (H s) Q:=by
 refine GE.loop (fun k fr ks' p=> ∃ s,k=μ s∧inv s∧fr=V.mk n (S s)∧ks'=ks∧p=H s) ?_ (μ s) _ _ _ ⟨s,rfl,hi,rfl,rfl,rfl⟩
 rintro k _ _ _ ⟨s,rfl,hi,rfl,rfl,rfl⟩
 refine (hs s hi).mono fun ex fr' ks' p' q=> ?_
 cases ex with
 |normal=>
  obtain ⟨t,h1,h2,h3⟩:=q
  exact ⟨μ t,h2,_,_,_,h3,t,rfl,h1,rfl,rfl,rfl⟩
 |exit i=>exact q
 |ret=>exact q
section
variable {α:Type} {n:Nat} {S:α→List (Nat×Val)} {H:α→Heap} {inv:α→Prop} {μ:α→Nat} {m:Nat} {fr':List Val} {ks':List (List Val)} {p':Heap}
theorem round_exit {i:Nat}:roundQ n S H ks inv μ m Q (.exit i) fr' ks' p'=Q (.exit i) fr' ks' p':=rfl
theorem round_ret:roundQ n S H ks inv μ m Q .ret fr' ks' p'=Q .ret fr' ks' p':=rfl
theorem round_normal (s:α) (h1:inv s) (h2:μ s<m) (h3:Weak fr' ks' p' (V.mk n (S s)) ks (H s)):roundQ n S H ks inv μ m Q .normal fr' ks' p':=⟨s,h1,h2,h3⟩
end
theorem gseq_normal {k:VC}:gseqQ E k Q .normal fr ks p=GE E k fr ks p Q:=rfl
theorem gseq_exit {k:VC} {i:Nat}:gseqQ E k Q (.exit i) fr ks p=Q (.exit i) fr ks p:=rfl
theorem gseq_ret {k:VC}:gseqQ E k Q .ret fr ks p=Q .ret fr ks p:=rfl
theorem gblock_normal {i:Nat}:gblockQ i Q .normal fr ks p=Q .normal fr ks p:=rfl
theorem gblock_ret {i:Nat}:gblockQ i Q .ret fr ks p=Q .ret fr ks p:=rfl
theorem gblock_exit {i:Nat}:gblockQ i Q (.exit i) fr ks p=Q .normal fr ks p:=by simp [gblockQ]
end
end Go.V
end
section
namespace Go.V
section
variable {h:Heap} {st:Bool} {n:Nat}
theorem resL_nil:resL h st n []=some ([],[]):=rfl
theorem resL_cons' {x : Val} {l : List Val} : resL h st n (x :: l) = (match resV h st n x, resL h st n l with
  |some (y,a),some (ys,b)=>some (y::ys,a++b)
  |_,_=>none):=rfl
theorem resV_undef:resV h st (n+1) .undef =some (.undef,[]):=rfl
theorem resV_bool {b:Bool}:resV h st (n+1) (.bool b)=some (.bool b,[]):=rfl
theorem resV_int {k:IntKind} {i:Int}:resV h st (n+1) (.int k i)=some (.int k i,[]):=rfl
theorem resV_str {s:List UInt8}:resV h st (n+1) (.str s)=some (.str s,[]):=rfl
theorem resV_nilp:resV h st (n+1) .nilp =some (.nilp,[]):=rfl
theorem resV_nils:resV h st (n+1) .nils =some (.nils,[]):=rfl
theorem resV_nilm:resV h st (n+1) .nilm =some (.nilm,[]):=rfl
theorem resV_nilf:resV h st (n+1) .nilf =some (.nilf,[]):=rfl
theorem resV_nili:resV h st (n+1) .nili =some (.nili,[]):=rfl
theorem resV_junk:resV h st (n+1) .junk =some (.junk,[]):=rfl
theorem resV_ref {c:List Val} {o:Nat}:resV h st (n+1) (.ref c o)=if st=true then none else some (.ref c o,[]):=rfl
theorem resV_list {c:List Val} {len x:Nat}:resV h st (n+1) (.list c len x)=if st=true then none else some (.list c len x,[]):=rfl
theorem resV_vmap {ks vs:List Val}:resV h st (n+1) (.vmap ks vs)=if st=true then none else some (.vmap ks vs,[]):=rfl
def mapF (g:List Val→Val) (u:List Nat):Option (List Val×List Nat)→Option (Val×List Nat)
 |some r=>some (g r.1,u++r.2)
 |none=>none
theorem resV_agg {l:List Val}:resV h st (n+1) (.agg l)=mapF .agg [] (resL h st n l):=by
 show (resL h st n l).map _=_
 cases resL h st n l<;>rfl
theorem resV_tup {l:List Val}:resV h st (n+1) (.tup l)=mapF .tup [] (resL h st n l):=by
 show (resL h st n l).map _=_
 cases resL h st n l<;>rfl
theorem resV_func {f : Fn} {a c : List Val} : resV h st (n + 1) (.func f a c) = (match resL h st n a, resL h st n c with
  |some x,some y=>some (.func f x.1 y.1,x.2++y.2)
  |_,_=>none):=rfl
def ptrCt (h:Heap) (st:Bool) (n b o:Nat):Option Blk→Option (Val×List Nat)
 |some (.cells c)=>mapF (fun r=>.ref r o) [b] (resL h st n c)
 |_=>none
theorem resV_ptr {b o:Nat}:resV h st (n+1) (.ptr b o)=ptrCt h st n b o (h.get b):=by
 simp only [resV]
 cases h.get b with
 |none=>rfl
 |some k=>
  cases k with
  |map es=>rfl
  |rnd st=>rfl
  |cells c=>
   show (resL h st n c).map _=_
   simp only [ptrCt]
   cases resL h st n c<;>rfl
def sliceC (h:Heap) (st:Bool) (n b o len cap ls:Nat):Option Blk→Option (Val×List Nat)
 |some (.cells c)=>if o≤c.length then mapF (fun r=>.list r len (if ls=0 then (if cap=len then 0 else 1) else 2*ls)) [b] (resL h st n ((c.drop o).take (len*((c.length - o)/cap)))) else none
 |_=>none
theorem resV_slice {b o len cap ls:Nat}:resV h st (n+1) (.slice b o len cap ls)=if len=0 then some (.list [] 0 (if ls=0 then (if cap=len then 0 else 1) else 2*ls),[]) else sliceC h st n b o len cap ls (h.get b):=by
 simp only [resV]
 by_cases h0:len=0
 ·rw [if_pos h0,if_pos h0]
 ·rw [if_neg h0,if_neg h0]
  cases h.get b with
  |none=>rfl
  |some k=>
   cases k with
   |map es=>rfl
   |rnd st=>rfl
   |cells c=>
    simp only [sliceC]
    split
    ·show (resL h st n _).map _=_
     cases resL h st n ((c.drop o).take (len*((c.length - o)/cap)))<;>rfl
    ·rfl
theorem newOf_nil:newOf []=[]:=rfl
theorem newOf_fresh {b len cap ls:Nat} {r:List Val}:newOf (.slice b 0 len cap (ls+1)::r)=b::newOf r:=rfl
def Val.isSl:Val→Bool
 | .slice .. =>true
 |_=>false
theorem newOf_other {v:Val} {r:List Val} (hv:(v.isSl=true)=False):newOf (v::r)=newOf r:=by cases v<;>first|rfl|exact (hv.mp rfl).elim
theorem outL_nil {g h:Heap}:outL st g h []=some []:=rfl
def outC (v:Option (Val×List Nat)) (r:Option (List Val)):Option (List Val):=match v,r with
 |some (y,_),some l=>some (y::l)
 |_,_=>none
theorem outL_other {g h:Heap} {v:Val} {r:List Val} (hv:(v.isSl=true)=False):outL st g h (v::r)=outC (resV g st deep v) (outL st g h r):=by
 rw [outL_old (by rintro b len cap ls rfl;exact (hv.mp rfl).elim)]
 rfl
def freshC (st:Bool) (g:Heap) (len ls:Nat) (r:Option (List Val)):Option Blk→Option (List Val)
 |some (.cells c)=>match resL g st deep c,r with
  |some q,some l=>some (.list q.1 len (2*(ls+1)+1)::l)
  |_,_=>none
 |_=>none
theorem inL_nil {h:Heap}:inL h []=([],h):=rfl
def Val.isLi:Val→Bool
 | .list .. =>true
 |_=>false
theorem inL_other {h:Heap} {v:Val} {l:List Val} (hv:(v.isLi=true)=False):inL h (v::l)=(v::(inL h l).1,(inL h l).2):=inL_old (by rintro c len x rfl;exact (hv.mp rfl).elim)
theorem inL_list {h:Heap} {c:List Val} {len x:Nat} {l:List Val}:inL h (.list c len x::l)=if x%2=1∧x≠1 then (.slice (h.new (.cells c)).1 0 len len (x/2)::(inL (h.new (.cells c)).2 l).1,(inL (h.new (.cells c)).2 l).2) else (.list c len x::(inL h l).1,(inL h l).2):=rfl
end
section
variable {E:Env} {fr:List Val} {ks:List (List Val)} {p:Heap} {R:OQ}
def pcG (a:List Val) (st:Bool) (l0 args:List Val) (p:Heap) (K:Val→Heap→Prop):Prop:=
 match resL p false deep args with
 |some (a',used)=>a'=a∧match outcome st l0 p used with
  |some (v,p')=>K v p'
  |none=>False
 |none=>False
end
end Go.V
end
section
namespace Go.V
def allD (o:VOper):Bool:=o.op.kind==0||(Nat.ble 2 o.op.kind&&o.full)
def seenD (rs:List (Nat×Nat)) (o:VOper) (p:Heap):Heap:=if allD o=true then p else part rs o.hide p
def backD (o:VOper) (p p':Heap):Heap:=if allD o=true then p' else unpart p p'
def isPart (o:VOper):Bool:=Nat.ble 3 o.op.kind&& !o.full
def goD (E:Env) (all l:List VOper) (k:Nat) (rs:List (Nat×Nat)) (fr:List Val) (ks:List (List Val)) (p:Heap) (R:OQ):Prop:=
  match l with
  |[]=>R fr ks p
  |o::r=>match wanted fr o.guard with
    |some false=>goD E all r (k+1) (rs++[(p.next,p.next)]) (setDst fr o.dst .undef) ks p R
    | some true => if (isCall o.op || isPart o) = true then GD E all k rs fr ks p R else
      match step E.meth dead fr (seenD rs o p) o.op with
      |some (v,p')=>(o.op.kind≤2∨o.full=true)∧nojunk fr o.op=true∧goD E all r (k+1) (rs++[(p.next,p'.next)]) (setDst fr o.dst v) ks (backD o p p') R
      |none=>False
    |none=>False
theorem GD.of {E:Env} (hm:MethSim E.meth) {all:List VOper} (hok:drawOkL all=true): ∀ {l:List VOper} {k:Nat} {rs:List (Nat×Nat)} {fr:List Val} {ks:List (List Val)} {p:Heap} {R:OQ},all.drop k=l→goD E all l k rs fr ks p R→GD E all k rs fr ks p R
 |[],k,rs,fr,ks,p,R,hl,w=>.nil hl w
 |o::r,k,rs,fr,ks,p,R,hl,w=>by
  have ho:all[k]? =some o:=by
   have:=congrArg (·[0]?) hl
   simpa using this
  have hl':all.drop (k+1)=r:=by
   have:=congrArg (·.drop 1) hl
   simpa [List.drop_drop] using this
  unfold goD at w
  split at w
  ·rename_i hg
   exact .not hok ho hg (.of hm hok hl' w)
  ·rename_i hg
   split at w
   ·exact w
   ·split at w
    ·rename_i v p' hs
     obtain ⟨hk,hj,w⟩:=w
     unfold seenD at hs
     unfold backD at w
     by_cases ha:allD o=true
     ·rw [if_pos ha] at hs w
      unfold allD at ha
      simp only [Bool.or_eq_true,beq_iff_eq,Bool.and_eq_true,Nat.ble_eq] at ha
      rcases ha with ha|⟨h2,hf⟩
      ·obtain ⟨_,rfl⟩:=step_idle ha hs p
       exact .op0 hm hok ho ha hg hs hj (.of hm hok hl' w)
      ·exact .op2 hm hok ho h2 hf hg hs hj (.of hm hok hl' w)
     ·rw [if_neg ha] at hs w
      unfold allD at ha
      simp only [Bool.or_eq_true,beq_iff_eq,Bool.and_eq_true,Nat.ble_eq,not_or,not_and] at ha
      refine .op1 hm hok ho ?_ hg hs hj (.of hm hok hl' w)
      rcases Nat.lt_or_ge 1 o.op.kind with q|q
      ·have hnf:=ha.2 q
       rcases hk with hk|hk
       ·exact .inr ⟨by omega,by simpa using hnf⟩
       ·exact absurd hk hnf
      ·exact .inl (by omega)
    ·exact w.elim
  ·exact w.elim
theorem goD_nil {E:Env} {all:List VOper} {k:Nat} {rs:List (Nat×Nat)} {fr:List Val} {ks:List (List Val)} {p:Heap} {R:OQ}:goD E all [] k rs fr ks p R=R fr ks p:=by unfold goD;rfl
theorem goD_cons {E:Env} {all:List VOper} {o:VOper} {r:List VOper} {k:Nat} {rs:List (Nat×Nat)} {fr:List Val} {ks:List (List Val)} {p:Heap} {R:OQ}:goD E all (o::r) k rs fr ks p R=match wanted fr o.guard with
    |some false=>goD E all r (k+1) (rs++[(p.next,p.next)]) (setDst fr o.dst .undef) ks p R
    | some true => if (isCall o.op || isPart o) = true then GD E all k rs fr ks p R else
      match step E.meth dead fr (seenD rs o p) o.op with
      |some (v,p')=>(o.op.kind≤2∨o.full=true)∧nojunk fr o.op=true∧goD E all r (k+1) (rs++[(p.next,p'.next)]) (setDst fr o.dst v) ks (backD o p p') R
      |none=>False
    |none=>False:=by
  rw [goD.eq_def]
section
variable {E:Env} {fr:List Val} {ks:List (List Val)} {p:Heap} {Q:EQ} {R:OQ}
theorem GE.seqD {l:List VOper} {b:VC} (hm:MethSim E.meth) (w:goD E l l 0 [] fr ks p fun fr ks p=>GE E b fr ks p Q) (hok:drawOkL l=true):GE E (.seq (.draw l) b) fr ks p Q:=.seq (.draw (.of hm hok rfl w))
theorem GE.drw {l:List VOper} (hm:MethSim E.meth) (w:goD E l l 0 [] fr ks p (Q .normal)) (hok:drawOkL l=true):GE E (.draw l) fr ks p Q:=.draw (.of hm hok rfl w)
end
end Go.V
end
section
namespace Go.V
theorem wrap_i64 {n:Int} (h1: -9223372036854775808≤n) (h2:n<9223372036854775808):IntKind.i64.wrap n=n:=by
 unfold IntKind.wrap
 simp (decide:=true) [IntKind.signed,IntKind.bits]
 omega
end Go.V
end
section
namespace Go.V
theorem isJ_undef:(Val.undef).isJ =false:=rfl
theorem isJ_bool {b:Bool}:(Val.bool b).isJ =false:=rfl
theorem isJ_int {k:IntKind} {n:Int}:(Val.int k n).isJ =false:=rfl
theorem isJ_str {s:List UInt8}:(Val.str s).isJ =false:=rfl
theorem isJ_nilp:(Val.nilp).isJ =false:=rfl
theorem isJ_ptr {b o:Nat}:(Val.ptr b o).isJ =false:=rfl
theorem isJ_nils:(Val.nils).isJ =false:=rfl
theorem isJ_slice {b o n c x:Nat}:(Val.slice b o n c x).isJ =false:=rfl
theorem isJ_nilm:(Val.nilm).isJ =false:=rfl
theorem isJ_map {b:Nat}:(Val.map b).isJ =false:=rfl
theorem isJ_nilf:(Val.nilf).isJ =false:=rfl
theorem isJ_func {f:Fn} {a c:List Val}:(Val.func f a c).isJ =false:=rfl
theorem isJ_nili:(Val.nili).isJ =false:=rfl
theorem isJ_iface {t:TypeId} {v:Val}:(Val.iface t v).isJ =false:=rfl
theorem isJ_agg {l:List Val}:(Val.agg l).isJ =false:=rfl
theorem isJ_tup {l:List Val}:(Val.tup l).isJ =false:=rfl
theorem isJ_ref {c:List Val} {o:Nat}:(Val.ref c o).isJ =false:=rfl
theorem isJ_list {c:List Val} {n x:Nat}:(Val.list c n x).isJ =false:=rfl
theorem isJ_vmap {k v:List Val}:(Val.vmap k v).isJ =false:=rfl
theorem isJ_zp:(Val.zp).isJ =false:=rfl
theorem isJ_junk:(Val.junk).isJ =true:=rfl
theorem isAgg_undef:(Val.undef).isAgg =false:=rfl
theorem isAgg_bool {b:Bool}:(Val.bool b).isAgg =false:=rfl
theorem isAgg_int {k:IntKind} {n:Int}:(Val.int k n).isAgg =false:=rfl
theorem isAgg_str {s:List UInt8}:(Val.str s).isAgg =false:=rfl
theorem isAgg_nilp:(Val.nilp).isAgg =false:=rfl
theorem isAgg_ptr {b o:Nat}:(Val.ptr b o).isAgg =false:=rfl
theorem isAgg_nils:(Val.nils).isAgg =false:=rfl
theorem isAgg_slice {b o n c x:Nat}:(Val.slice b o n c x).isAgg =false:=rfl
theorem isAgg_nilm:(Val.nilm).isAgg =false:=rfl
theorem isAgg_map {b:Nat}:(Val.map b).isAgg =false:=rfl
theorem isAgg_nilf:(Val.nilf).isAgg =false:=rfl
theorem isAgg_func {f:Fn} {a c:List Val}:(Val.func f a c).isAgg =false:=rfl
theorem isAgg_nili:(Val.nili).isAgg =false:=rfl
theorem isAgg_iface {t:TypeId} {v:Val}:(Val.iface t v).isAgg =false:=rfl
theorem isAgg_agg {l:List Val}:(Val.agg l).isAgg =true:=rfl
theorem isAgg_tup {l:List Val}:(Val.tup l).isAgg =false:=rfl
theorem isAgg_ref {c:List Val} {o:Nat}:(Val.ref c o).isAgg =false:=rfl
theorem isAgg_list {c:List Val} {n x:Nat}:(Val.list c n x).isAgg =false:=rfl
theorem isAgg_vmap {k v:List Val}:(Val.vmap k v).isAgg =false:=rfl
theorem isAgg_zp:(Val.zp).isAgg =false:=rfl
theorem isAgg_junk:(Val.junk).isAgg =false:=rfl
theorem isLi_undef:(Val.undef).isLi =false:=rfl
theorem isLi_bool {b:Bool}:(Val.bool b).isLi =false:=rfl
theorem isLi_int {k:IntKind} {n:Int}:(Val.int k n).isLi =false:=rfl
theorem isLi_str {s:List UInt8}:(Val.str s).isLi =false:=rfl
theorem isLi_nilp:(Val.nilp).isLi =false:=rfl
theorem isLi_ptr {b o:Nat}:(Val.ptr b o).isLi =false:=rfl
theorem isLi_nils:(Val.nils).isLi =false:=rfl
theorem isLi_slice {b o n c x:Nat}:(Val.slice b o n c x).isLi =false:=rfl
theorem isLi_nilm:(Val.nilm).isLi =false:=rfl
theorem isLi_map {b:Nat}:(Val.map b).isLi =false:=rfl
theorem isLi_nilf:(Val.nilf).isLi =false:=rfl
theorem isLi_func {f:Fn} {a c:List Val}:(Val.func f a c).isLi =false:=rfl
theorem isLi_nili:(Val.nili).isLi =false:=rfl
theorem isLi_iface {t:TypeId} {v:Val}:(Val.iface t v).isLi =false:=rfl
theorem isLi_agg {l:List Val}:(Val.agg l).isLi =false:=rfl
theorem isLi_tup {l:List Val}:(Val.tup l).isLi =false:=rfl
theorem isLi_ref {c:List Val} {o:Nat}:(Val.ref c o).isLi =false:=rfl
theorem isLi_list {c:List Val} {n x:Nat}:(Val.list c n x).isLi =true:=rfl
theorem isLi_vmap {k v:List Val}:(Val.vmap k v).isLi =false:=rfl
theorem isLi_zp:(Val.zp).isLi =false:=rfl
theorem isLi_junk:(Val.junk).isLi =false:=rfl
theorem isSl_undef:(Val.undef).isSl =false:=rfl
theorem isSl_bool {b:Bool}:(Val.bool b).isSl =false:=rfl
theorem isSl_int {k:IntKind} {n:Int}:(Val.int k n).isSl =false:=rfl
theorem isSl_str {s:List UInt8}:(Val.str s).isSl =false:=rfl
theorem isSl_nilp:(Val.nilp).isSl =false:=rfl
theorem isSl_ptr {b o:Nat}:(Val.ptr b o).isSl =false:=rfl
theorem isSl_nils:(Val.nils).isSl =false:=rfl
theorem isSl_slice {b o n c x:Nat}:(Val.slice b o n c x).isSl =true:=rfl
theorem isSl_nilm:(Val.nilm).isSl =false:=rfl
theorem isSl_map {b:Nat}:(Val.map b).isSl =false:=rfl
theorem isSl_nilf:(Val.nilf).isSl =false:=rfl
theorem isSl_func {f:Fn} {a c:List Val}:(Val.func f a c).isSl =false:=rfl
theorem isSl_nili:(Val.nili).isSl =false:=rfl
theorem isSl_iface {t:TypeId} {v:Val}:(Val.iface t v).isSl =false:=rfl
theorem isSl_agg {l:List Val}:(Val.agg l).isSl =false:=rfl
theorem isSl_tup {l:List Val}:(Val.tup l).isSl =false:=rfl
theorem isSl_ref {c:List Val} {o:Nat}:(Val.ref c o).isSl =false:=rfl
theorem isSl_list {c:List Val} {n x:Nat}:(Val.list c n x).isSl =false:=rfl
theorem isSl_vmap {k v:List Val}:(Val.vmap k v).isSl =false:=rfl
theorem isSl_zp:(Val.zp).isSl =false:=rfl
theorem isSl_junk:(Val.junk).isSl =false:=rfl
theorem one_undef:(Val.undef).one =false:=rfl
theorem one_bool {b:Bool}:(Val.bool b).one =true:=rfl
theorem one_int {k:IntKind} {n:Int}:(Val.int k n).one =true:=rfl
theorem one_str {s:List UInt8}:(Val.str s).one =true:=rfl
theorem one_nilp:(Val.nilp).one =true:=rfl
theorem one_ptr {b o:Nat}:(Val.ptr b o).one =true:=rfl
theorem one_nils:(Val.nils).one =true:=rfl
theorem one_slice {b o n c x:Nat}:(Val.slice b o n c x).one =true:=rfl
theorem one_nilm:(Val.nilm).one =true:=rfl
theorem one_map {b:Nat}:(Val.map b).one =true:=rfl
theorem one_nilf:(Val.nilf).one =true:=rfl
theorem one_func {f:Fn} {a c:List Val}:(Val.func f a c).one =true:=rfl
theorem one_nili:(Val.nili).one =true:=rfl
theorem one_iface {t:TypeId} {v:Val}:(Val.iface t v).one =true:=rfl
theorem one_agg {l:List Val}:(Val.agg l).one =false:=rfl
theorem one_tup {l:List Val}:(Val.tup l).one =false:=rfl
theorem one_ref {c:List Val} {o:Nat}:(Val.ref c o).one =true:=rfl
theorem one_list {c:List Val} {n x:Nat}:(Val.list c n x).one =true:=rfl
theorem one_vmap {k v:List Val}:(Val.vmap k v).one =true:=rfl
theorem one_zp:(Val.zp).one =false:=rfl
theorem one_junk:(Val.junk).one =false:=rfl
theorem cells_undef:(Val.undef).cells =[Val.undef]:=rfl
theorem cells_bool {b:Bool}:(Val.bool b).cells =[Val.bool b]:=rfl
theorem cells_int {k:IntKind} {n:Int}:(Val.int k n).cells =[Val.int k n]:=rfl
theorem cells_str {s:List UInt8}:(Val.str s).cells =[Val.str s]:=rfl
theorem cells_nilp:(Val.nilp).cells =[Val.nilp]:=rfl
theorem cells_ptr {b o:Nat}:(Val.ptr b o).cells =[Val.ptr b o]:=rfl
theorem cells_nils:(Val.nils).cells =[Val.nils]:=rfl
theorem cells_slice {b o n c x:Nat}:(Val.slice b o n c x).cells =[Val.slice b o n c x]:=rfl
theorem cells_nilm:(Val.nilm).cells =[Val.nilm]:=rfl
theorem cells_map {b:Nat}:(Val.map b).cells =[Val.map b]:=rfl
theorem cells_nilf:(Val.nilf).cells =[Val.nilf]:=rfl
theorem cells_func {f:Fn} {a c:List Val}:(Val.func f a c).cells =[Val.func f a c]:=rfl
theorem cells_nili:(Val.nili).cells =[Val.nili]:=rfl
theorem cells_iface {t:TypeId} {v:Val}:(Val.iface t v).cells =[Val.iface t v]:=rfl
theorem cells_agg {l:List Val}:(Val.agg l).cells =l:=rfl
theorem cells_tup {l:List Val}:(Val.tup l).cells =[Val.tup l]:=rfl
theorem cells_ref {c:List Val} {o:Nat}:(Val.ref c o).cells =[Val.ref c o]:=rfl
theorem cells_list {c:List Val} {n x:Nat}:(Val.list c n x).cells =[Val.list c n x]:=rfl
theorem cells_vmap {k v:List Val}:(Val.vmap k v).cells =[Val.vmap k v]:=rfl
theorem cells_zp:(Val.zp).cells =[Val.zp]:=rfl
theorem cells_junk:(Val.junk).cells =[Val.junk]:=rfl
def outG (st:Bool) (l0:List Val) (p:Heap) (used:List Nat) (K:Val→Heap→Prop):Prop:=match outcome st l0 p used with
 |some (v,p')=>K v p'
 |none=>False
def pcX (E:Env) (f:FuncId) (args:List Val) (p:Heap) (K:Val→Heap→Prop):Prop:=match resL p false deep args with
 |some (a,used)=> ∃ st l0,PC E f a st l0∧outG st l0 p used K
 |none=>False
def pcV (E:Env) (x:Val) (args:List Val) (p:Heap) (K:Val→Heap→Prop):Prop:=match x with
 | .func (.func f) a0 c0=>pcX E f (a0++args++c0) p K
 |_=>False
section
variable {E:Env} {fr:List Val} {ks:List (List Val)} {p:Heap} {R:OQ}
theorem pcX_spec {f:FuncId} {args:List Val} {K:Val→Heap→Prop} (w:pcX E f args p K): ∃ a used st l0 v p',PC E f a st l0∧resL p false deep args=some (a,used)∧outcome st l0 p used=some (v,p')∧K v p':=by
 unfold pcX at w
 split at w
 ·rename_i a used hres
  obtain ⟨st,l0,c,w⟩:=w
  unfold outG at w
  split at w
  ·rename_i v p' ho
   exact ⟨a,used,st,l0,v,p',c,hres,ho,w⟩
  ·exact w.elim
 ·exact w.elim
theorem GO.pcx {d:Option Nat} {f:FuncId} {args:List Opd} {g:Option (Nat×Bool)} {fu:Bool} {hd:List Nat} {l:List VOper} (hg:wanted fr g=some true) (w:pcX E f (evs fr args) p fun v p'=>GO E l (setDst fr d v) ks p' R) (ha:args.all Opd.ok=true):GO E (⟨d,.call f args,g,fu,hd⟩::l) fr ks p R:=by
 obtain ⟨a,used,st,l0,v,p',c,hres,ho,w⟩:=pcX_spec w
 exact GO.call hg (GC.pc c hres ho w) ha
theorem GO.pcv {d:Option Nat} {x:Opd} {args:List Opd} {g:Option (Nat×Bool)} {fu:Bool} {hd:List Nat} {l:List VOper} (hg:wanted fr g=some true) (w:pcV E (V.ev fr x) (evs fr args) p fun v p'=>GO E l (setDst fr d v) ks p' R) (ha:args.all Opd.ok=true) (hk:x.ok=true):GO E (⟨d,.callv x args,g,fu,hd⟩::l) fr ks p R:=by
 unfold pcV at w
 split at w
 ·rename_i f a0 c0 hx
  obtain ⟨a,used,st,l0,v,p',c,hres,ho,w⟩:=pcX_spec w
  exact GO.callv hx hg (GC.pc c hres ho w) ha hk
 ·exact w.elim
theorem GD.pcx {all:List VOper} {k:Nat} {rs:List (Nat×Nat)} {d:Option Nat} {f:FuncId} {args:List Opd} {g:Option (Nat×Bool)} {fu:Bool} {hd:List Nat} (ho:all[k]? =some ⟨d,.call f args,g,fu,hd⟩) (hok:drawOkL all=true) (hg:wanted fr g=some true)
  (w:pcX E f (evs fr args) (seenD rs ⟨d,.call f args,g,fu,hd⟩ p) fun v p'=>GD E all (k+1) (rs++[(p.next,p'.next)]) (setDst fr d v) ks (backD ⟨d,.call f args,g,fu,hd⟩ p p') R):GD E all k rs fr ks p R:=by
 obtain ⟨a,used,st,l0,v,p',c,hres,hout,w⟩:=pcX_spec w
 cases fu with
 |true=>exact GD.pc2 hok ho hg c hres hout w
 |false=>exact GD.pc hok ho hg c hres hout w
theorem GD.pcv {all:List VOper} {k:Nat} {rs:List (Nat×Nat)} {d:Option Nat} {x:Opd} {args:List Opd} {g:Option (Nat×Bool)} {fu:Bool} {hd:List Nat} (ho:all[k]? =some ⟨d,.callv x args,g,fu,hd⟩) (hok:drawOkL all=true) (hg:wanted fr g=some true)
  (w:pcV E (V.ev fr x) (evs fr args) (seenD rs ⟨d,.callv x args,g,fu,hd⟩ p) fun v p'=>GD E all (k+1) (rs++[(p.next,p'.next)]) (setDst fr d v) ks (backD ⟨d,.callv x args,g,fu,hd⟩ p p') R):GD E all k rs fr ks p R:=by
 unfold pcV at w
 split at w
 rotate_left
 ·exact w.elim
 rename_i f a0 c0 hx
 obtain ⟨a,used,st,l0,v,p',c,hres,hout,w⟩:=pcX_spec w
 have hoo:=ok_of hok ho
 have hao:x.ok=true∧args.all Opd.ok=true:=by
  simp only [VOp.ok,VOp.opds,Bool.and_eq_true,List.all_cons] at hoo
  exact ⟨hoo.1.1,hoo.1.2⟩
 have key: ∀ {h:Heap} {F:Nat→Prop} {σ:Sg} {q:Heap} {fr1 fr1' fr':List Val},HR q h F σ→Rs h F σ fr1 fr1'→V.ev fr1 x=V.ev fr x→evs fr1 args=evs fr args→V.ev fr1' x=V.ev fr' x→evs fr1' args=evs fr' args→resL q false deep (a0++evs fr args++c0)=some (a,used)→outcome st l0 q used=some (v,p')→
   ∃ n v' h' F' σ',step E.meth (run E n) fr' h (.callv x args)=some (v',h')∧Sim q h F σ p' h' F' σ'∧Rv h' F' σ' v v':=by
  intro h F σ q fr1 fr1' fr' hr hb e1 e2 e3 e4 hres hout
  have hx':=hb.ev hao.1
  rw [e1,hx,e3] at hx'
  simp only [Rv] at hx'
  obtain ⟨a',c',hx',r1,r2⟩:=hx'
  have hargs:=hb.evs hao.2
  rw [e2,e4] at hargs
  obtain ⟨n,v',h1,F',σ',e,s,r⟩:=c.sim hr ((r1.append hargs).append r2) hres hout
  exact ⟨n,v',h1,F',σ',by simp only [step];rw [hx'];exact e,s,r⟩
 have hkind:(VOp.callv x args).kind =2:=rfl
 cases fu with
 |true=>
  refine GD.whole (o:=⟨d,.callv x args,g,true,hd⟩) hok ho (by simp [VOp.kind]) rfl hg (fun h F σ fr' hr hb=>key hr hb rfl rfl rfl rfl ?_ ?_) w
  ·exact hres
  ·exact hout
 |false=>
  refine GD.prtl (o:=⟨d,.callv x args,g,false,hd⟩) hok ho (by simp [VOp.kind]) hg (fun h F σ fr' hr hb=> ?_) (.inr ⟨.inl rfl,rfl⟩) w
  have t1: ∀ t∈x.tmp,t∈(VOp.callv x args).tmps :=fun t ht=>by simp [VOp.tmps,ht]
  have t2: ∀ t∈args.flatMap Opd.tmp,t∈(VOp.callv x args).tmps :=fun t ht=>by simp only [VOp.tmps,List.mem_append];exact .inr ht
  exact key hr hb (ev_congr fun t ht=>patchF_getD (t1 t ht)) (evs_congr fun t ht=>patchF_getD (t2 t ht)) (ev_congr fun t ht=>patchF_getD (t1 t ht)) (evs_congr fun t ht=>patchF_getD (t2 t ht)) hres hout
end
def headCall:List VOper→Bool
 |o::_=>isCall o.op||isPart o
 |[]=>false
theorem GO.ofn {E:Env} (hm:MethSim E.meth) {l:List VOper} {fr:List Val} {ks:List (List Val)} {p:Heap} {R:OQ} (_:headCall l=false) (ho:(l.all fun o=>o.op.ok)=true) (w:goG E l fr ks p R):GO E l fr ks p R:=.of hm ho w
theorem GD.ofn {E:Env} (hm:MethSim E.meth) {all:List VOper} {l:List VOper} {k:Nat} {rs:List (Nat×Nat)} {fr:List Val} {ks:List (List Val)} {p:Heap} {R:OQ} (hl:all.drop k=l) (_:headCall l=false) (hok:drawOkL all=true) (w:goD E all l k rs fr ks p R):GD E all k rs fr ks p R:=.of hm hok hl w
section
variable {E:Env} {ks:List (List Val)} {α:Type}
abbrev forC (b0 b1 ti tn tc td:Nat) (B:VC):VC:=.loop (.seq (.region [⟨some tc,.arith .lss (.t ti) (.t tn),none,true,[]⟩]) (.seq (.cond (.t tc) .skip (.exit b0)) (.seq (.block b1 B) (.region [⟨some td,.arith .add (.t ti) (.c (.int .i64 1)),none,true,[]⟩,⟨some ti,.mov (.t td),none,true,[]⟩]))))
def forQ (b0 b1 n ti tn N i:Nat) (S:α→List (Nat×Val)) (H:α→Heap) (ks:List (List Val)) (I:Nat→α→Prop) (Q:EQ):EQ:=fun ex fr ks' p'=>match ex with
 | .normal => ∃ s,I (i+1) s∧Weak fr ks' p' (V.mk n ((ti,.int .i64 i)::(tn,.int .i64 N)::S s)) ks (H s)
 | .exit j=>if j=b1 then ∃ s,I (i+1) s∧Weak fr ks' p' (V.mk n ((ti,.int .i64 i)::(tn,.int .i64 N)::S s)) ks (H s) else if j=b0 then Q .normal fr ks' p' else Q (.exit j) fr ks' p'
 | .ret =>Q .ret fr ks' p'
theorem GE.forR (hm:MethSim E.meth) {b0 b1 n ti tn tc td N:Nat} (S:α→List (Nat×Val)) (H:α→Heap) (I:Nat→α→Prop) {B:VC} {Q:EQ} (hN:N<4611686018427387904)
  (body: ∀ i s,i<N→I i s→GE E B (V.mk n ((ti,.int .i64 i)::(tn,.int .i64 N)::S s)) ks (H s) (forQ b0 b1 n ti tn N i S H ks I Q))
  (done: ∀ s,I N s→Q .normal (V.mk n ((ti,.int .i64 N)::(tn,.int .i64 N)::S s)) ks (H s)) (i0:Nat) (s0:α) (h0:I i0 s0) (hi:i0≤N) {fr:List Val} {ks0:List (List Val)} {p:Heap} (hw:Weak fr ks0 p (V.mk n ((ti,.int .i64 i0)::(tn,.int .i64 N)::S s0)) ks (H s0))
  (hd:ti<n∧tn<n∧tc<n∧td<n∧(tn=ti)=False∧(tc=ti)=False∧(tc=tn)=False∧(ti=td)=False∧(tn=td)=False∧(ti=tc)=False∧(tn=tc)=False)
  (hS: ∀ s,∀ e∈S s,e.1≠tc∧e.1≠td∧e.1≠ti):GE E (forC b0 b1 ti tn tc td B) fr ks0 p (gblockQ b0 Q):=by
 refine GE.weak hw ?_
 obtain ⟨d1,d2,d3,d4,d5,d6,d7,d8,d9,d10,d11⟩:=hd
 have lkS: ∀ (l:List (Nat×Val)) (t:Nat),(∀ e∈l,e.1≠t)→lk t l=.junk :=by
  intro l t
  induction l with
  |nil=>intro _;rfl
  |cons e l ih=>
   intro h
   obtain ⟨d,v⟩:=e
   have hne:t≠d:=fun q=>h (d,v) (List.mem_cons_self ..) q.symm
   rw [lk_ne (by simp [hne])]
   exact ih fun e he=>h e (List.mem_cons_of_mem _ he)
 let SS:Nat×α→List (Nat×Val):=fun x=>(ti,.int .i64 x.1)::(tn,.int .i64 N)::S x.2
 have weakC: ∀ (i:Nat) (s:α) (x:Val) {ks:List (List Val)} {p:Heap},Weak (V.mk n ((tc,x)::SS (i,s))) ks p (V.mk n (SS (i,s))) ks p:=by
  intro i s x ks p
  refine Weak.fr (by simp [mk_length]) fun t=> ?_
  by_cases ht:t<n
  ·rw [mk_getD ht,mk_getD ht]
   by_cases h:t=tc
   ·subst h
    left
    simp only [SS]
    rw [lk_ne d6,lk_ne d7]
    exact lkS _ _ fun e he=>(hS s e he).1
   ·have a1:lk t ((tc,x)::SS (i,s))=lk t (SS (i,s)):=lk_ne (by rw [eq_iff_iff];exact ⟨h,False.elim⟩)
    exact .inr a1.symm
  ·right
   simp [V.mk,List.getD_eq_getElem?_getD,ht]
 have weakD: ∀ (i:Nat) (s:α) {ks:List (List Val)} {p:Heap},Weak (V.mk n ((ti,.int .i64 ((i+1:Nat):Int))::(td,.int .i64 ((i+1:Nat):Int))::SS (i,s))) ks p (V.mk n (SS (i+1,s))) ks p:=by
  intro i s ks p
  refine Weak.fr (by simp [mk_length]) fun t=> ?_
  by_cases ht:t<n
  ·rw [mk_getD ht,mk_getD ht]
   by_cases h1:t=ti
   ·subst h1;right;simp only [SS];rw [lk_eq,lk_eq]
   ·by_cases h2:t=td
    ·subst h2
     left
     simp only [SS]
     rw [lk_ne (by simp [h1]),lk_ne (by simp only [eq_iff_iff,iff_false];intro q;rw [←q] at d9;simp at d9)]
     exact lkS _ _ fun e he=>(hS s e he).2.1
    ·right
     have f1:(t=ti)=False:=by rw [eq_iff_iff];exact ⟨h1,False.elim⟩
     have f2:(t=td)=False:=by rw [eq_iff_iff];exact ⟨h2,False.elim⟩
     have a1:lk t (SS (i+1,s))=lk t ((tn,.int .i64 N)::S s):=lk_ne f1
     have a2:lk t (SS (i,s))=lk t ((tn,.int .i64 N)::S s):=lk_ne f1
     have a3:lk t ((ti,.int .i64 ((i+1:Nat):Int))::(td,.int .i64 ((i+1:Nat):Int))::SS (i,s))=lk t ((td,.int .i64 ((i+1:Nat):Int))::SS (i,s)):=lk_ne f1
     have a4:lk t ((td,.int .i64 ((i+1:Nat):Int))::SS (i,s))=lk t (SS (i,s)):=lk_ne f2
     rw [a1,a3,a4,a2]
  ·right
   simp [V.mk,List.getD_eq_getElem?_getD,ht]
 refine GE.rounds (n:=n) SS (fun x=>H x.2) (fun x=>x.1≤N∧I x.1 x.2) (fun x=>N - x.1) ?_ (i0,s0) ⟨hi,h0⟩
 rintro ⟨i,s⟩ ⟨hle,hI⟩
 simp only at hle hI
 refine GE.seqR hm ?_ (by rfl)
 have e1:V.ev (V.mk n (SS (i,s))) (.t ti)=.int .i64 i:=by rw [ev_mk d1];exact lk_eq
 have e2:V.ev (V.mk n (SS (i,s))) (.t tn)=.int .i64 N:=by rw [ev_mk d2];simp only [SS];rw [lk_ne d5,lk_eq]
 simp only [goG_cons,goG_nil,isCall,Bool.false_eq_true,if_false,opG,wanted,step,pureV,V.arith,e1,e2,if_true,intBin,nojunk,Val.isJ,Bool.not_false,VOp.jops,VOp.opds,List.all_cons,List.all_nil,Bool.and_true,true_and,setDst_mk]
 by_cases h:i<N
 ·refine GE.seq (GE.condT (by rw [ev_mk d3,lk_eq];exact congrArg Val.bool (decide_eq_true (by omega))) ?_ (by rfl))
  refine GE.skip ?_
  simp only [gseq_normal]
  refine GE.weak (weakC i s _) ?_
  refine GE.seqBlock ?_
  refine (body i s h hI).mono fun ex fr ks' p' q=> ?_
  have wrapi:IntKind.i64.wrap ((i:Int)+1)=((i+1:Nat):Int):=wrap_i64 (by omega) (by omega)
  have next: ∀ s',I (i+1) s'→Weak fr ks' p' (V.mk n ((ti,.int .i64 i)::(tn,.int .i64 N)::S s')) ks (H s')→GE E (.region [⟨some td,.arith .add (.t ti) (.c (.int .i64 1)),none,true,[]⟩,⟨some ti,.mov (.t td),none,true,[]⟩]) fr ks' p' (roundQ n SS (fun x=>H x.2) ks (fun x=>x.1≤N∧I x.1 x.2) (fun x=>N - x.1) (N - i) (gblockQ b0 Q)):=by
   intro s' hI' hw
   refine GE.weak hw ?_
   refine GE.reg hm ?_ (by rfl)
   have f1:V.ev (V.mk n (SS (i,s'))) (.t ti)=.int .i64 i:=by rw [ev_mk d1];exact lk_eq
   have f2: ∀ v l,V.ev (V.mk n ((td,v)::l)) (.t td)=v:=by intro v l;rw [ev_mk d4];exact lk_eq
   show goG E _ (V.mk n (SS (i,s'))) _ _ _
   simp only [goG_cons,goG_nil,isCall,Bool.false_eq_true,if_false,opG,wanted,step,pureV,V.arith,f1,f2,ev_c,if_true,intBin,wrapi,nojunk,Val.isJ,Bool.not_false,VOp.jops,VOp.opds,List.all_cons,List.all_nil,Bool.and_true,true_and,setDst_mk]
   exact ⟨(i+1,s'),⟨by show i+1≤N;omega,hI'⟩,by show N - (i+1)<N - i;omega,weakD i s'⟩
  cases ex with
  |normal=>
   obtain ⟨s',hI',hw⟩:=q
   exact next s' hI' hw
  |ret=>exact q
  |exit j=>
   simp only [forQ] at q
   simp only [gblockQ]
   split at q
   ·rename_i hj
    rw [if_pos hj]
    obtain ⟨s',hI',hw⟩:=q
    exact next s' hI' hw
   ·rename_i hj
    rw [if_neg hj]
    simp only [gseq_exit,round_exit,gblockQ]
    exact q
 ·have hiN:i=N:=by omega
  subst hiN
  refine GE.seq (GE.condF (by rw [ev_mk d3,lk_eq];exact congrArg Val.bool (decide_eq_false (by omega))) ?_ (by rfl))
  refine GE.weak (weakC i s _) ?_
  refine GE.exit ?_
  simp only [gseq_exit,round_exit,gblock_exit]
  exact done s hI
section
variable {b0 b1 n ti tn N i:Nat} {S:α→List (Nat×Val)} {H:α→Heap} {I:Nat→α→Prop} {Q:EQ} {fr':List Val} {ks':List (List Val)} {p':Heap}
theorem forQ_normal:forQ b0 b1 n ti tn N i S H ks I Q .normal fr' ks' p'= ∃ s,I (i+1) s∧Weak fr' ks' p' (V.mk n ((ti,.int .i64 i)::(tn,.int .i64 N)::S s)) ks (H s):=rfl
theorem forQ_exit {j:Nat}:forQ b0 b1 n ti tn N i S H ks I Q (.exit j) fr' ks' p'=if j=b1 then ∃ s,I (i+1) s∧Weak fr' ks' p' (V.mk n ((ti,.int .i64 i)::(tn,.int .i64 N)::S s)) ks (H s) else if j=b0 then Q .normal fr' ks' p' else Q (.exit j) fr' ks' p':=rfl
theorem forQ_ret:forQ b0 b1 n ti tn N i S H ks I Q .ret fr' ks' p'=Q .ret fr' ks' p':=rfl
end
end
end Go.V
end
section
set_option maxRecDepth 100000
set_option maxHeartbeats 4000000
namespace Go.V
structure Hold (p:Prop):Prop where
 out:p
def fz (z:Bool) (f:FuncId):Val:=match z with
 |true=>.nilf
 |false=>.func (.func f) [] []
theorem fz_cells {z:Bool} {f:FuncId}:(fz z f).cells =[fz z f]:=by cases z<;>rfl
theorem fz_isJ {z:Bool} {f:FuncId}:(fz z f).isJ =false:=by cases z<;>rfl
theorem fz_isLi {z:Bool} {f:FuncId}:(fz z f).isLi =false:=by cases z<;>rfl
theorem fz_isSl {z:Bool} {f:FuncId}:(fz z f).isSl =false:=by cases z<;>rfl
theorem fz_one {z:Bool} {f:FuncId}:(fz z f).one =true:=by cases z<;>rfl
theorem fz_res {z:Bool} {f:FuncId} {h:Heap} {s:Bool} {n:Nat}:resV h s (n+1) (fz z f)=some (fz z f,[]):=by cases z<;>rfl
def midQ {α:Type} (n:Nat) (S:α→List (Nat×Val)) (H:α→Heap) (ks:List (List Val)) (I:α→Prop) (Q:EQ):EQ:=fun ex fr' ks' p'=>match ex with
 | .normal => ∃ s,I s∧Weak fr' ks' p' (V.mk n (S s)) ks (H s)
 |ex=>Q ex fr' ks' p'
section
variable {α:Type} {n:Nat} {S:α→List (Nat×Val)} {H:α→Heap} {ks ks':List (List Val)} {I:α→Prop} {Q:EQ} {fr':List Val} {p':Heap}
theorem mid_normal:midQ n S H ks I Q .normal fr' ks' p'= ∃ s,I s∧Weak fr' ks' p' (V.mk n (S s)) ks (H s):=rfl
theorem mid_exit {i:Nat}:midQ n S H ks I Q (.exit i) fr' ks' p'=Q (.exit i) fr' ks' p':=rfl
theorem mid_ret:midQ n S H ks I Q .ret fr' ks' p'=Q .ret fr' ks' p':=rfl
end
mutual
def Val.lo (M:Nat):Val→Bool
 | .ptr b _=>decide (b<M)
 | .slice b _ _ _ _=>decide (b<M)
 | .map b=>decide (b<M)
 | .func _ a c=>Val.los M a&&Val.los M c
 | .iface _ v=>Val.lo M v
 | .agg l=>Val.los M l
 | .tup l=>Val.los M l
 |_=>true
def Val.los (M:Nat):List Val→Bool
 |[]=>true
 |x::r=>Val.lo M x&&Val.los M r
end
section
variable {M:Nat}
theorem lo_undef:Val.lo M .undef =true:=rfl
theorem lo_bool {b:Bool}:Val.lo M (.bool b)=true:=rfl
theorem lo_int {k:IntKind} {n:Int}:Val.lo M (.int k n)=true:=rfl
theorem lo_str {s:List UInt8}:Val.lo M (.str s)=true:=rfl
theorem lo_nilp:Val.lo M .nilp =true:=rfl
theorem lo_ptr {b o:Nat}:Val.lo M (.ptr b o)=decide (b<M):=rfl
theorem lo_nils:Val.lo M .nils =true:=rfl
theorem lo_slice {b o n c x:Nat}:Val.lo M (.slice b o n c x)=decide (b<M):=rfl
theorem lo_nilm:Val.lo M .nilm =true:=rfl
theorem lo_map {b:Nat}:Val.lo M (.map b)=decide (b<M):=rfl
theorem lo_nilf:Val.lo M .nilf =true:=rfl
theorem lo_nili:Val.lo M .nili =true:=rfl
theorem lo_ref {c:List Val} {o:Nat}:Val.lo M (.ref c o)=true:=rfl
theorem lo_list {c:List Val} {n x:Nat}:Val.lo M (.list c n x)=true:=rfl
theorem lo_vmap {k v:List Val}:Val.lo M (.vmap k v)=true:=rfl
theorem lo_zp:Val.lo M .zp =true:=rfl
theorem lo_junk:Val.lo M .junk =true:=rfl
theorem los_nil:Val.los M []=true:=rfl
theorem los_cons {x:Val} {r:List Val}:Val.los M (x::r)=(Val.lo M x&&Val.los M r):=by rw [Val.los]
theorem fz_lo {z:Bool} {f:FuncId}:(fz z f).lo M=true:=by cases z<;>rfl
def cutS (M:Nat) (σ:Sg):Sg:=fun a=>if a<M then σ a else none
mutual
theorem Rv.cut {h:Heap} {F:Nat→Prop} {σ:Sg}: ∀ (x y:Val),x.lo M=true→Rv h F σ x y→Rv h F (cutS M σ) x y
 | .undef,y,_,r| .bool _,y,_,r| .int _ _,y,_,r| .str _,y,_,r| .nilp,y,_,r| .nils,y,_,r| .nilm,y,_,r| .nilf,y,_,r| .nili,y,_,r| .zp,y,_,r| .junk,y,_,r=>by
  simp only [Rv] at r ⊢;try exact r
 | .ref c o,y,_,r| .list c n m,y,_,r| .vmap ks vs,y,_,r=>by
  simp only [Rv] at r ⊢;exact r
 | .ptr b o,y,l,r| .slice b o n cap ls,y,l,r| .map b,y,l,r=>by
  simp only [Rv] at r ⊢
  obtain ⟨b',hb,e⟩:=r
  refine ⟨b',?_,e⟩
  unfold cutS
  rw [if_pos (by simpa [Val.lo] using l)];exact hb
 | .func g a c,y,l,r=>by
  simp only [Rv] at r ⊢
  rw [Val.lo,Bool.and_eq_true] at l
  obtain ⟨a',c',e,h1,h2⟩:=r
  exact ⟨a',c',e,Rs.cut _ _ l.1 h1,Rs.cut _ _ l.2 h2⟩
 | .iface t v,y,l,r=>by
  simp only [Rv] at r ⊢
  rw [Val.lo] at l
  obtain ⟨v',e,h1⟩:=r
  exact ⟨v',e,Rv.cut _ _ l h1⟩
 | .agg x,y,l,r| .tup x,y,l,r=>by
  simp only [Rv] at r ⊢
  rw [Val.lo] at l
  obtain ⟨l',e,h1⟩:=r
  exact ⟨l',e,Rs.cut _ _ l h1⟩
theorem Rs.cut {h:Heap} {F:Nat→Prop} {σ:Sg}: ∀ (x y:List Val),Val.los M x=true→Rs h F σ x y→Rs h F (cutS M σ) x y
 |[],y,_,r=>by simp only [Rs] at r ⊢;exact r
 |x::xs,y,l,r=>by
  simp only [Rs] at r ⊢
  rw [Val.los,Bool.and_eq_true] at l
  obtain ⟨z,s,e,h1,h2⟩:=r
  exact ⟨z,s,e,Rv.cut _ _ l.1 h1,Rs.cut _ _ l.2 h2⟩
end
def kslo (M:Nat):List (List Val)→Bool
 |[]=>true
 |x::r=>Val.los M x&&kslo M r
theorem Rss.cut {h:Heap} {F:Nat→Prop} {σ:Sg}: ∀ {x y:List (List Val)},kslo M x=true→Rss h F σ x y→Rss h F (cutS M σ) x y
 |[],_,_,r=>r
 |x::xs,_,l,⟨y,s,e,h1,h2⟩=>by
  rw [kslo,Bool.and_eq_true] at l
  exact ⟨y,s,e,Rs.cut _ _ l.1 h1,Rss.cut l.2 h2⟩
def lof (M:Nat):List (Nat×Val)→Bool
 |[]=>true
 |(_,v)::r=>Val.lo M v&&lof M r
theorem lof_lk: ∀ {l:List (Nat×Val)},lof M l=true→ ∀ t,Val.lo M (lk t l)=true
 |[],_,t=>rfl
 |(d,v)::r,h,t=>by
  rw [lof,Bool.and_eq_true] at h
  by_cases ht:t=d
  ·subst ht;rw [lk_eq];exact h.1
  ·rw [lk_ne (by simp [ht])];exact lof_lk h.2 t
theorem los_mk {l:List (Nat×Val)} (h:lof M l=true) (n:Nat):Val.los M (V.mk n l)=true:=by
 have g: ∀ xs:List Val,(∀ x∈xs,Val.lo M x=true)→Val.los M xs=true:=by
  intro xs
  induction xs with
  |nil=>intro _;rfl
  |cons x xs ih=>intro q;rw [Val.los,q x (by simp),ih fun y hy=>q y (by simp [hy])];rfl
 refine g _ fun x hx=> ?_
 obtain ⟨i,hi,rfl⟩:=List.getElem_of_mem hx
 rw [mk_length] at hi
 have:=mk_getD (l:=l) hi
 rw [List.getD_eq_getElem?_getD,List.getElem?_eq_getElem (by rw [mk_length];exact hi),Option.getD_some] at this
 rw [this]
 exact lof_lk h i
def blo (M:Nat):List (Nat×Option Blk)→Prop
  |[]=>True
  | (b, x) :: r => b < M ∧ (match x with
    |some (.cells c)=>Val.los M c=true
    |some (.rnd _)=>True
    |none=>True
    |some (.map _)=>False)∧blo M r
theorem blo_nil:blo M []=True:=rfl
theorem blo_cells {b:Nat} {c:List Val} {r:List (Nat×Option Blk)}:blo M ((b,some (.cells c))::r)=(b<M∧Val.los M c=true∧blo M r):=rfl
theorem blo_rnd {b:Nat} {c:Nat} {r:List (Nat×Option Blk)}:blo M ((b,some (.rnd c))::r)=(b<M∧True∧blo M r):=rfl
theorem blo_none {b:Nat} {r:List (Nat×Option Blk)}:blo M ((b,none)::r)=(b<M∧True∧blo M r):=rfl
theorem blo_lb: ∀ {l:List (Nat×Option Blk)},blo M l→ ∀ b,M≤b→lb b l=none
 |[],_,_,_=>rfl
 |(d,x)::r,h,b,hb=>by
  rw [lb,if_neg (by have:=h.1;omega)]
  exact blo_lb h.2.2 b hb
theorem blo_val: ∀ {l:List (Nat×Option Blk)},blo M l→ ∀ b k,lb b l=some k→(∃ c,k=.cells c∧Val.los M c=true)∨ ∃ s,k=.rnd s
 |(d,x)::r,h,b,k,e=>by
  rw [lb] at e
  split at e
  ·subst e
   have:=h.2.1
   cases k with
   |cells c=>exact .inl ⟨c,rfl,this⟩
   |rnd s=>exact .inr ⟨s,rfl⟩
   |map _=>exact this.elim
  ·exact blo_val h.2.2 b k e
theorem Weak.cut {M n nx:Nat} {l l2:List (Nat×Val)} {ks:List (List Val)} {b b2:List (Nat×Option Blk)} (hM:M≤nx) (hs:sees l l2) (hl:lof M l2=true) (hk:kslo M ks=true) (hb:blo M b2) (hb2: ∀ i,i<M→lb i b2=lb i b):Weak (V.mk n l) ks (V.hp nx 0 [] b) (V.mk n l2) ks (V.hp M 0 [] b2):=by
 refine (Weak.mk hs).trans ?_
 intro h F σ fr' ks' hr hf hkk
 have hg: ∀ i k,(V.hp M 0 [] b2).t.get i=some k→i<M∧(V.hp nx 0 [] b).t.get i=some k∧((∃ c,k=.cells c∧Val.los M c=true)∨ ∃ s,k=.rnd s):=by
  intro i k e
  have e0:=e
  rw [show (V.hp M 0 [] b2).t =tOf b2 from rfl,tOf_get] at e
  have hi:i<M:=by
   rcases Nat.lt_or_ge i M with q|q
   ·exact q
   ·rw [blo_lb hb i q] at e;cases e
  refine ⟨hi,?_,blo_val hb i k e⟩
  rw [show (V.hp nx 0 [] b).t =tOf b from rfl,tOf_get,←hb2 i hi];exact e
 have hc: ∀ i,i<M→cutS M σ i=σ i:=fun i hi=>by unfold cutS;rw [if_pos hi]
 have hcs: ∀ i c,cutS M σ i=some c→i<M∧σ i=some c:=by
  intro i c e
  unfold cutS at e
  split at e
  ·exact ⟨by assumption,e⟩
  ·cases e
 refine ⟨cutS M σ,⟨?_,?_,?_,?_,?_,?_,hr.fro,?_,hr.hhid,hr.hflo⟩,Rs.cut _ _ (los_mk hl n) hf,Rss.cut hk hkk,fun a c e=>⟨a,(hcs a c e).2⟩⟩
 ·intro i k e
  obtain ⟨hi,h1,_⟩:=hg i k e
  rw [hc i hi]
  exact hr.blk i k h1
 ·intro i k e
  obtain ⟨hi,h1,h2⟩:=hg i k (Heap.get_t e)
  rw [hc i hi]
  obtain ⟨b',k',g1,g2,g3⟩:=hr.rel i k (Heap.get_of h1 (by rw [hp_hidden];rfl))
  refine ⟨b',k',g1,g2,?_⟩
  rcases h2 with ⟨c,rfl,h3⟩|⟨s,rfl⟩
  ·obtain ⟨c',rfl,h4⟩:=g3
   exact ⟨c',rfl,Rs.cut _ _ h3 h4⟩
  ·exact g3
 ·intro i j c h1 h2
  exact hr.inj _ _ _ (hcs i c h1).2 (hcs j c h2).2
 ·intro i c h1
  exact ⟨(hcs i c h1).1,(hr.dom i c (hcs i c h1).2).2⟩
 ·intro i c h1 _
  exact hr.vis i c (hcs i c h1).2 (by rw [hp_hidden];rfl)
 ·intro i c h1 _
  exact hr.flo i c (hcs i c h1).2 (Nat.zero_le _)
 ·intro i hi
  cases hgi:(V.hp M 0 [] b2).t.get i with
  |none=>rfl
  |some k=>have:=(hg i k hgi).1;have hi':M≤i:=hi;omega
def seesB (b:List (Nat×Option Blk)) (b2:List (Nat×Option Blk)):Nat→Prop
 |0=>True
 |m+1=>lb m b2=lb m b∧seesB b b2 m
theorem seesB_all {b b2:List (Nat×Option Blk)}: ∀ {m:Nat},seesB b b2 m→ ∀ i,i<m→lb i b2=lb i b
 |m+1,h,i,hi=>by
  by_cases e:i=m
  ·rw [e];exact h.1
  ·exact seesB_all h.2 i (by omega)
end
theorem flat_len {α:Type} {c:α→List Val} {k:Nat} (hk: ∀ x,(c x).length =k): ∀ l:List α,(l.flatMap c).length =l.length*k
 |[]=>by simp
 |x::l=>by rw [List.flatMap_cons,List.length_append,hk,flat_len hk l,List.length_cons,Nat.add_mul];omega
theorem flat_at {α:Type} {c:α→List Val} {k:Nat} (hk: ∀ x,(c x).length =k): ∀ {l:List α} {i:Nat} (hi:i<l.length),((l.flatMap c).drop (i*k)).take k=c l[i]
 |x::l,0,_=>by
  rw [Nat.zero_mul,List.drop_zero,List.flatMap_cons,List.take_left' (hk x)];rfl
 |x::l,i+1,hi=>by
  rw [List.flatMap_cons,Nat.add_mul,Nat.one_mul,Nat.add_comm (i*k) k,←List.drop_drop,List.drop_left' (hk x)]
  exact flat_at hk (by simpa using hi)
theorem flat_in {α:Type} {c:α→List Val} {k:Nat} (hk: ∀ x,(c x).length =k) {l:List α} {i:Nat} (hi:i<l.length):(i*k+k≤(l.flatMap c).length)=True:=by
 refine eq_true ?_
 rw [flat_len hk]
 have:=Nat.mul_le_mul_right k (Nat.succ_le_of_lt hi)
 rw [Nat.succ_mul] at this
 exact this
theorem flat_sub {α:Type} {c:α→List Val} {k:Nat} (hk: ∀ x,(c x).length =k) {l:List α} {i:Nat} (hi:i<l.length) {o m:Nat} (ho:o+m≤k):((l.flatMap c).drop (i*k+o)).take m=((c l[i]).drop o).take m:=by
 rw [←flat_at hk hi,List.drop_take,List.take_take,List.drop_drop,show min m (k - o)=m by omega]
section
variable {α:Type} {c:α→List Val} {z:List Val} {l:List α} {n k:Nat}
end
theorem nat0 (i:Nat):((0:Int)≤(i:Int))=True:=by simp
theorem ltI {i n:Nat} (h:i<n):((i:Int)<(n:Int))=True:=by simp;omega
theorem ltI' {i n:Nat} (h: ¬ i<n):((i:Int)<(n:Int))=False:=by simp;omega
end Go.V
end
section
set_option maxRecDepth 100000
set_option maxHeartbeats 4000000
namespace Go.V
theorem opG_mk {m:TypeId→Val→String→Option (FuncId×Val)} {fr:List Val} {p:Heap} {d:Option Nat} {op:VOp} {g:Option (Nat×Bool)} {fu:Bool} {hd:List Nat} {K:List Val→Heap→Prop}:opG m fr p ⟨d,op,g,fu,hd⟩ K=match wanted fr g with
 |some true=>match step m dead fr p op with
  |some (v,p')=>nojunk fr op=true∧K (setDst fr d v) p'
  |none=>False
 |some false=>K (setDst fr d .undef) p
 |none=>False:=rfl
theorem goD_mk {E:Env} {all:List VOper} {d:Option Nat} {op:VOp} {g:Option (Nat×Bool)} {fu:Bool} {hd:List Nat} {r:List VOper} {k:Nat} {rs:List (Nat×Nat)} {fr:List Val} {ks:List (List Val)} {p:Heap} {R:OQ}:goD E all (⟨d,op,g,fu,hd⟩::r) k rs fr ks p R=match wanted fr g with
    |some false=>goD E all r (k+1) (rs++[(p.next,p.next)]) (setDst fr d .undef) ks p R
    | some true => if (isCall op || isPart ⟨d, op, g, fu, hd⟩) = true then GD E all k rs fr ks p R else
      match step E.meth dead fr (seenD rs ⟨d,op,g,fu,hd⟩ p) op with
      |some (v,p')=>(op.kind≤2∨fu=true)∧nojunk fr op=true∧goD E all r (k+1) (rs++[(p.next,p'.next)]) (setDst fr d v) ks (backD ⟨d,op,g,fu,hd⟩ p p') R
      |none=>False
    |none=>False:=goD_cons
theorem GO.notc {E:Env} {l:List VOper} {fr:List Val} {ks:List (List Val)} {p:Heap} {R:OQ} {d:Option Nat} {op:VOp} {g:Option (Nat×Bool)} {fu:Bool} {hd:List Nat} (hg:wanted fr g=some false) (w:GO E l (setDst fr d .undef) ks p R):GO E (⟨d,op,g,fu,hd⟩::l) fr ks p R:=GO.not hg w
theorem GD.notc {E:Env} {all:List VOper} {k:Nat} {rs:List (Nat×Nat)} {fr:List Val} {ks:List (List Val)} {p:Heap} {R:OQ} {d:Option Nat} {op:VOp} {g:Option (Nat×Bool)} {fu:Bool} {hd:List Nat} (ho:all[k]? =some ⟨d,op,g,fu,hd⟩) (hok:drawOkL all=true) (hg:wanted fr g=some false) (w:GD E all (k+1) (rs++[(p.next,p.next)]) (setDst fr d .undef) ks p R):GD E all k rs fr ks p R:=GD.not hok ho hg w
section
variable {p h:Heap} {F:Nat→Prop} {σ:Sg}
def frF (F:Nat→Prop) (σ:Sg) (used:List Nat) (b:Nat):Prop:=F b∨ ∃ a∈used,σ a=some b
theorem drops_same: ∀ {l:List Nat} {h h':Heap},drops h l=some h'→h'.hid=h.hid∧h'.next=h.next∧h'.floor=h.floor
 |[],h,h',e=>by cases e;exact ⟨rfl,rfl,rfl⟩
 |a::r,h,h',e=>by
  simp only [drops] at e
  split at e
  ·exact drops_same (h:=h.put a none) e
  ·cases e
theorem frF_fix (h:Heap) {used:List Nat}:Fix h h F (frF F σ used):=⟨fun _ x=>.inl x,fun _ _=>rfl,fun _ _ x=>x⟩
theorem HR.frzL (hr:HR p h F σ) {used:List Nat} {p2:Heap} (hd:drops p used=some p2):HR p2 h (frF F σ used) σ:=by
 obtain ⟨hid,nx,fl⟩:=drops_same hd
 have hl:=hr.less (q:=p2) (fun b k g=>by
  rw [drops_get used hd] at g
  split at g
  ·cases g
  ·exact g) hid nx fl
 refine ⟨?_,?_,hl.inj,hl.dom,hl.vis,hl.flo,?_,hl.plow,hl.hhid,hl.hflo⟩
 ·intro b k g
  obtain ⟨b',k',h1,h2,h3⟩:=hl.blk b k g
  refine ⟨b',k',h1,h2,?_⟩
  rintro (h4|⟨a,ha,h4⟩)
  ·exact h3 h4
  ·have:=hl.inj _ _ _ h1 h4
   subst this
   rw [drops_get used hd,if_pos ha] at g
   cases g
 ·intro b k g
  obtain ⟨b',k',h1,h2,h3⟩:=hl.rel b k g
  exact ⟨b',k',h1,h2,Rb.mono (frF_fix h) (.refl _) h3⟩
 ·rintro b (h1|⟨a,_,h1⟩)
  ·exact hl.fro b h1
  ·exact (hl.dom a b h1).2
end
theorem resV_idem {p g:Heap}: ∀ (n:Nat) (v y:Val) (u:List Nat),resV p false n v=some (y,u)→resV g false n y=some (y,[])∧y.isSl=false
 |0,v,y,u,e=>by cases e
 |n+1,v,y,u,e=>by
  have ih: ∀ (l ys:List Val) (u:List Nat),resL p false n l=some (ys,u)→resL g false n ys=some (ys,[]):=by
   intro l
   induction l with
   |nil=>intro ys u e;rw [resL_nil] at e;cases e;rfl
   |cons x l ihl=>
    intro ys u e
    obtain ⟨y,a,zs,b,h1,h2,e⟩:=resL_cons e
    cases e
    rw [resL_cons',(resV_idem n x y a h1).1,ihl zs b h2]
    rfl
  cases v with
  |undef=>cases e;exact ⟨rfl,rfl⟩
  |bool=>cases e;exact ⟨rfl,rfl⟩
  |int=>cases e;exact ⟨rfl,rfl⟩
  |str=>cases e;exact ⟨rfl,rfl⟩
  |nilp=>cases e;exact ⟨rfl,rfl⟩
  |nils=>cases e;exact ⟨rfl,rfl⟩
  |nilm=>cases e;exact ⟨rfl,rfl⟩
  |nilf=>cases e;exact ⟨rfl,rfl⟩
  |nili=>cases e;exact ⟨rfl,rfl⟩
  |zp=>cases e;exact ⟨rfl,rfl⟩
  |junk=>cases e;exact ⟨rfl,rfl⟩
  |ref c o=>rw [resV_ref,if_neg (by simp)] at e;cases e;exact ⟨rfl,rfl⟩
  |list c m x=>rw [resV_list,if_neg (by simp)] at e;cases e;exact ⟨rfl,rfl⟩
  |vmap ks vs=>rw [resV_vmap,if_neg (by simp)] at e;cases e;exact ⟨rfl,rfl⟩
  |ptr b o=>
   rw [resV_ptr] at e
   unfold ptrCt at e
   split at e
   ·unfold mapF at e;split at e
    ·cases e;exact ⟨rfl,rfl⟩
    ·cases e
   ·cases e
  |slice b o len cap ls=>
   rw [resV_slice] at e
   split at e
   ·cases e;exact ⟨rfl,rfl⟩
   ·unfold sliceC at e
    split at e
    ·split at e
     ·unfold mapF at e;split at e
      ·cases e;exact ⟨rfl,rfl⟩
      ·cases e
     ·cases e
    ·cases e
  |map b=>
   simp only [resV] at e
   split at e
   ·split at e
    ·cases e;exact ⟨rfl,rfl⟩
    ·cases e
   ·cases e
  |func f a c=>
   rw [resV_func] at e
   split at e
   ·rename_i x y h1 h2
    cases e
    rw [resV_func,ih _ _ _ h1,ih _ _ _ h2]
    exact ⟨rfl,rfl⟩
   ·cases e
  |iface t x=>
   have e':(resV p false n x).map (fun r=>(Val.iface t r.1,r.2))=some (y,u):=e
   cases hl:resV p false n x with
   |none=>rw [hl] at e';cases e'
   |some q=>
    rw [hl] at e'
    cases e'
    refine ⟨?_,rfl⟩
    show (resV g false n q.1).map (fun r=>(Val.iface t r.1,r.2))=_
    rw [(resV_idem n x q.1 q.2 hl).1];rfl
  |agg l=>
   rw [resV_agg] at e
   unfold mapF at e
   split at e
   ·rename_i q hl
    cases e
    rw [resV_agg,ih _ _ _ hl]
    exact ⟨rfl,rfl⟩
   ·cases e
  |tup l=>
   rw [resV_tup] at e
   unfold mapF at e
   split at e
   ·rename_i q hl
    cases e
    rw [resV_tup,ih _ _ _ hl]
    exact ⟨rfl,rfl⟩
   ·cases e
theorem outL_idem {p g h:Heap}: ∀ (l ys:List Val) (u:List Nat),resL p false deep l=some (ys,u)→outL false g h ys=some ys∧newOf ys=[]
 |[],ys,u,e=>by rw [resL_nil] at e;cases e;exact ⟨rfl,rfl⟩
 |x::l,ys,u,e=>by
  obtain ⟨y,a,zs,b,h1,h2,e⟩:=resL_cons e
  cases e
  obtain ⟨i1,i2⟩:=resV_idem (g:=g) deep x y a h1
  obtain ⟨i3,i4⟩:=outL_idem (g:=g) (h:=h) l zs b h2
  refine ⟨?_,?_⟩
  ·rw [outL_other (by rw [i2];simp),i1,i3];rfl
  ·rw [newOf_other (by rw [i2];simp),i4]
def outF (p:Heap) (r:List Val):Option (List Val):=match resL p false deep r with
 |some (l,u)=>match drops p u with
  |some _=>some l
  |none=>none
 |none=>none
theorem resultOf_ev {h:Heap} {F:Nat→Prop} {σ:Sg} {r:List Val} {l':List Val} (x:Rs h F σ r l'):Rv h F σ (resultOf r) (resultOf l'):=resultOfR x
theorem PC.fnF {E:Env} {f:FuncId} {vf:VFn} {a l:List Val} (hf:E.fns f=some vf) (w:GE E vf.body (V.mk vf.ntmps (argsL 0 a)) [] (hp 0 0 [] []) fun ex fr _ p'=>(∀ i,ex≠.exit i)∧ ∃ r,readResults fr p' vf.results=some r∧outF p' r=some l) (hn:a.length≤vf.ntmps) (hp:E.prims f=none):PC E f a false l:=by
 have g:GC E f a [] heapO fun v _ p'=> ∃ r,v=resultOf r∧outF p' r=some l:=
  GC.fn hf ((w.weak (.enter hn)).mono fun ex fr _ p' ⟨h1,r,h2,h3⟩=>⟨h1,r,h2,r,rfl,h3⟩) hp
 obtain ⟨g⟩:=g
 refine ⟨⟨fun h F σ args' ks' hr hb hk=> ?_⟩⟩
 obtain ⟨n,v',h2,v,ks2,p2,F2,σ2,e,f1,hr2,r2,t2,r,rfl,ho⟩:=g h F σ args' ks' hr hb hk
 unfold outF at ho
 split at ho
 ·rename_i l2 u hres
  split at ho
  ·rename_i p3 hd
   cases ho
   obtain ⟨l',rfl,rl⟩:=resultOf_inv r2
   obtain ⟨_,q⟩:=resL_rel (resV_rel hr2 deep) r l' l u hres rl
   have q2:=q (frF F2 σ2 u) (fun _ b hb=>.inl hb) (fun a ha b hb=>.inr ⟨a,ha,hb⟩)
   have hx:Fix h2 h2 F2 (frF F2 σ2 u):=frF_fix h2
   obtain ⟨o1,o2⟩:=outL_idem (g:=without p3 (newOf l)) (h:=p3) r l u hres
   refine ⟨n,resultOf l',h2,resultOf l,ks2,p3,frF F2 σ2 u,σ2,e,⟨f1.fix.trans hx,f1.own,fun b hb=> ?_,f1.newS,f1.he⟩,hr2.frzL hd,resultOf_ev (Rs.mono (Fix.refl _ _) (Sg.none_le _) _ _ q2),Rss.mono hx (.refl _) t2,l,rfl,o1⟩
   rcases hb with z|⟨a,_,z⟩
   ·exact f1.newF b z
   ·rcases f1.newS a b z with z|z
    ·exact .inr (.inr z)
    ·exact .inr (.inl z)
  ·cases ho
 ·cases ho
def rf (M:Nat) (js:List Nat) (b:Nat):Option Nat:=if b<M then some b else idx js b M
def org (M:Nat) (js:List Nat) (i:Nat):Nat:=if i<M then i else js.getD (i - M) 0
def seesR (f:Nat→Option Nat) (l:List (Nat×Val)):List (Nat×Val)→Prop
 |[]=>True
 |(d,v)::r=>v=(lk d l).ren f∧seesR f l r
def seesN (M:Nat) (js:List Nat) (b:List (Nat×Option Blk)):List (Nat×Option Blk)→Prop
 |[]=>True
 |(i,x)::r=>(i<M+js.length∧x=(lb (org M js i) b).map (Blk.ren (rf M js)))∧seesN M js b r
theorem seesN_lb {M:Nat} {js:List Nat} {b:List (Nat×Option Blk)}: ∀ {b2:List (Nat×Option Blk)},seesN M js b b2→ ∀ i k,lb i b2=some k→i<M+js.length∧ ∃ k0,lb (org M js i) b=some k0∧k=k0.ren (rf M js)
 |(d,x)::r,h,i,k,e=>by
  rw [lb] at e
  split at e
  ·rename_i hd
   subst hd e
   obtain ⟨⟨h1,h2⟩,_⟩:=h
   refine ⟨h1,?_⟩
   cases hq:lb (org M js i) b with
   |none=>rw [hq] at h2;cases h2
   |some k0=>rw [hq] at h2;cases h2;exact ⟨k0,rfl,rfl⟩
  ·exact seesN_lb h.2 i k e
theorem seesR_lk {f:Nat→Option Nat} {l:List (Nat×Val)}: ∀ {l2:List (Nat×Val)},seesR f l l2→ ∀ t,lk t l2=.junk ∨lk t l2=(lk t l).ren f
 |[],_,t=>.inl rfl
 |(d,v)::r,h,t=>by
  by_cases e:t=d
  ·subst e;rw [lk_eq];exact .inr h.1
  ·rw [lk_ne (by simp [e])];exact seesR_lk h.2 t
def ksren (f:Nat→Option Nat) (ks:List (List Val)):List (List Val):=ks.map (Val.rens f)
theorem Weak.ren {M n nx:Nat} (js:List Nat) {l l2:List (Nat×Val)} {ks:List (List Val)} {b b2:List (Nat×Option Blk)} (hM:Nat.ble M nx=true) (hj:js.all (fun j=>Nat.ble M j&&Nat.ble (j+1) nx)=true) (hn:js.Nodup) (hs:seesR (rf M js) l l2) (hb:seesN M js b b2):Weak (V.mk n l) ks (V.hp nx 0 [] b) (V.mk n l2) (ksren (rf M js) ks) (V.hp (M+js.length) 0 [] b2):=by
 intro h F σ fr' ks' hr hf hk
 have hj': ∀ (i c:Nat),js[i]? =some c→M≤c∧c<nx:=by
  intro i c hc
  have:=List.all_eq_true.1 hj c (List.mem_of_getElem? hc)
  simp only [Bool.and_eq_true,Nat.ble_eq] at this
  omega
 have hor: ∀ i,i<M+js.length→org M js i<nx:=by
  intro i hi
  unfold org
  have:=Nat.le_of_ble_eq_true hM
  split
  ·omega
  ·have hlt:i - M<js.length:=by omega
   have:=hj' (i - M) js[i - M] (List.getElem?_eq_getElem hlt)
   rw [List.getD_eq_getElem?_getD,List.getElem?_eq_getElem hlt];exact this.2
 have hinj: ∀ i k,i<M+js.length→k<M+js.length→org M js i=org M js k→i=k:=by
  intro i k hi hk e
  unfold org at e
  have g: ∀ i,M≤i→i<M+js.length→ ∃ c,js[i - M]? =some c∧js.getD (i - M) 0=c∧M≤c:=by
   intro i h1 h2
   have hlt:i - M<js.length:=by omega
   exact ⟨js[i - M],List.getElem?_eq_getElem hlt,by rw [List.getD_eq_getElem?_getD,List.getElem?_eq_getElem hlt];rfl,(hj' _ _ (List.getElem?_eq_getElem hlt)).1⟩
  split at e<;>split at e
  ·exact e
  ·rename_i h1 h2
   obtain ⟨c,_,q,_⟩:=g k (by omega) hk
   rw [q] at e;omega
  ·rename_i h1 h2
   obtain ⟨c,_,q,_⟩:=g i (by omega) hi
   rw [q] at e;omega
  ·rename_i h1 h2
   obtain ⟨c,q1,q2,_⟩:=g i (by omega) hi
   obtain ⟨d,r1,r2,_⟩:=g k (by omega) hk
   rw [q2,r2] at e
   subst e
   have:=idx_nodup (i:=0) hn q1
   rw [idx_nodup (i:=0) hn r1] at this
   simp only [Option.some.injEq] at this
   omega
 let τ:Sg:=fun i=>if i<M+js.length then σ (org M js i) else none
 have hτ: ∀ i c,τ i=some c→i<M+js.length∧σ (org M js i)=some c:=by
  intro i c e
  simp only [τ] at e
  split at e
  ·exact ⟨by assumption,e⟩
  ·cases e
 have hren: ∀ b c,rf M js b=some c→ ∀ d,σ b=some d→τ c=some d:=by
  intro b c e d hd
  unfold rf at e
  split at e
  ·cases e
   simp only [τ]
   rename_i hb
   rw [if_pos (by omega)]
   unfold org
   rw [if_pos hb];exact hd
  ·obtain ⟨h1,h2⟩:=idx_some e
   have hlt:=(List.getElem?_eq_some_iff.1 h2).1
   simp only [τ]
   rw [if_pos (by omega)]
   unfold org
   rw [if_neg (by omega),List.getD_eq_getElem?_getD,h2];exact hd
 have hget: ∀ i k,(V.hp (M+js.length) 0 [] b2).t.get i=some k→i<M+js.length∧ ∃ k0,(V.hp nx 0 [] b).get (org M js i)=some k0∧k=k0.ren (rf M js):=by
  intro i k e
  rw [show (V.hp (M+js.length) 0 [] b2).t =tOf b2 from rfl,tOf_get] at e
  obtain ⟨h1,k0,h2,h3⟩:=seesN_lb hb i k e
  exact ⟨h1,k0,by rw [hp_get0];exact h2,h3⟩
 refine ⟨τ,⟨?_,?_,?_,?_,?_,?_,hr.fro,?_,hr.hhid,hr.hflo⟩,?_,?_,?_⟩
 ·intro i k e
  obtain ⟨hi,k0,h1,_⟩:=hget i k e
  obtain ⟨b',k',g1,g2,g3⟩:=hr.blk _ k0 (Heap.get_t h1)
  exact ⟨b',k',by simp only [τ];rw [if_pos hi];exact g1,g2,g3⟩
 ·intro i k e
  obtain ⟨hi,k0,h1,rfl⟩:=hget i k (Heap.get_t e)
  obtain ⟨b',k',g1,g2,g3⟩:=hr.rel _ k0 h1
  refine ⟨b',k',by simp only [τ];rw [if_pos hi];exact g1,g2,?_⟩
  cases k0 with
  |cells c=>
   obtain ⟨c',rfl,h4⟩:=g3
   exact ⟨c',rfl,Rs.ren hren _ _ h4⟩
  |map es=>
   obtain ⟨es',rfl,h4,h5⟩:=g3
   have q: ∀ (l:List (Val×Val)),((l.map fun e=>(e.1.ren (rf M js),e.2.ren (rf M js))).map (·.1))=Val.rens (rf M js) (l.map (·.1))∧((l.map fun e=>(e.1.ren (rf M js),e.2.ren (rf M js))).map (·.2))=Val.rens (rf M js) (l.map (·.2)):=by
    intro l
    induction l with
    |nil=>exact ⟨rfl,rfl⟩
    |cons a l ih=>simp only [List.map_cons,Val.rens,ih.1,ih.2];exact ⟨trivial,trivial⟩
   exact ⟨es',rfl,by rw [(q es).1];exact Rs.ren hren _ _ h4,by rw [(q es).2];exact Rs.ren hren _ _ h5⟩
  |rnd st=>exact g3
 ·intro i j c h1 h2
  obtain ⟨a1,a2⟩:=hτ i c h1
  obtain ⟨b1,b2⟩:=hτ j c h2
  exact hinj i j a1 b1 (hr.inj _ _ _ a2 b2)
 ·intro i c h1
  obtain ⟨a1,a2⟩:=hτ i c h1
  exact ⟨a1,(hr.dom _ c a2).2⟩
 ·intro i c h1 _
  obtain ⟨a1,a2⟩:=hτ i c h1
  exact hr.vis _ c a2 (by rw [hp_hidden];rfl)
 ·intro i c h1 _
  obtain ⟨a1,a2⟩:=hτ i c h1
  exact hr.flo _ c a2 (Nat.zero_le _)
 ·intro i hi
  cases hgi:(V.hp (M+js.length) 0 [] b2).t.get i with
  |none=>rfl
  |some k=>have:=(hget i k hgi).1;have hi':M+js.length≤i:=hi;omega
 ·refine .of_getD (by rw [hf.length,mk_length,mk_length]) fun i=> ?_
  by_cases hi:i<n
  ·rw [mk_getD hi]
   have h1:=hf.getD i
   rw [mk_getD hi] at h1
   rcases seesR_lk hs i with e|e
   ·rw [e];simp only [Rv]
   ·rw [e];exact Rv.ren hren _ _ h1
  ·have h1:=hf.getD i
   have e1: ∀ l:List (Nat×Val),(V.mk n l).getD i .undef =.undef :=fun l=>by
    simp [V.mk,List.getD_eq_getElem?_getD,hi]
   rw [e1] at h1 ⊢
   simp only [Rv] at h1 ⊢
   exact h1
 ·unfold ksren
  have: ∀ {l m:List (List Val)},Rss h F σ l m→Rss h F τ (l.map (Val.rens (rf M js))) m:=by
   intro l
   induction l with
   |nil=>intro m e;exact e
   |cons x l ih=>
    rintro m ⟨y,s,e,h1,h2⟩
    exact ⟨y,s,e,Rs.ren hren _ _ h1,ih h2⟩
  exact this hk
 ·intro i c h1
  exact ⟨_,(hτ i c h1).2⟩
theorem Weak.ren' {M n nx:Nat} (js:List Nat) {l l2:List (Nat×Val)} {ks ks2:List (List Val)} {b b2:List (Nat×Option Blk)} {N:Nat} (hN:N=M+js.length) (hM:Nat.ble M nx=true) (hj:js.all (fun j=>Nat.ble M j&&Nat.ble (j+1) nx)=true) (hn:js.Nodup) (hk:ksren (rf M js) ks=ks2) (hs:seesR (rf M js) l l2) (hb:seesN M js b b2):Weak (V.mk n l) ks (V.hp nx 0 [] b) (V.mk n l2) ks2 (V.hp N 0 [] b2):=by
 subst hN hk;exact Weak.ren js hM hj hn hs hb
theorem Weak.grow {n nx N:Nat} {l l2:List (Nat×Val)} {ks:List (List Val)} {b b2:List (Nat×Option Blk)} (hN:nx≤N) (hs:sees l l2) (hb: ∀ i k,lb i b2=some k→i<nx∧lb i b=some k):Weak (V.mk n l) ks (V.hp nx 0 [] b) (V.mk n l2) ks (V.hp N 0 [] b2):=by
 refine (Weak.mk hs).trans ?_
 intro h F σ fr' ks' hr hf hk
 have hg: ∀ i k,(V.hp N 0 [] b2).t.get i=some k→i<nx∧(V.hp nx 0 [] b).t.get i=some k:=by
  intro i k e
  rw [show (V.hp N 0 [] b2).t =tOf b2 from rfl,tOf_get] at e
  obtain ⟨h1,h2⟩:=hb i k e
  exact ⟨h1,by rw [show (V.hp nx 0 [] b).t =tOf b from rfl,tOf_get];exact h2⟩
 refine ⟨σ,⟨?_,?_,hr.inj,?_,?_,?_,hr.fro,?_,hr.hhid,hr.hflo⟩,hf,hk,fun a _ e=>⟨a,e⟩⟩
 ·intro i k e;exact hr.blk i k (hg i k e).2
 ·intro i k e
  exact hr.rel i k (Heap.get_of (hg i k (Heap.get_t e)).2 (by rw [hp_hidden];rfl))
 ·intro i c e;have:=hr.dom i c e;exact ⟨Nat.lt_of_lt_of_le this.1 hN,this.2⟩
 ·intro i c e _;exact hr.vis i c e (by rw [hp_hidden];rfl)
 ·intro i c e _;exact hr.flo i c e (Nat.zero_le _)
 ·intro i hi
  cases hgi:(V.hp N 0 [] b2).t.get i with
  |none=>rfl
  |some k=>have:=(hg i k hgi).1;have hi':N≤i:=hi;omega
theorem Weak.grow1 {n nx:Nat} {l l2:List (Nat×Val)} {ks:List (List Val)} {b:List (Nat×Option Blk)} (hs:sees l l2):Weak (V.mk n l) ks (V.hp nx 0 [] b) (V.mk n l2) ks (V.hp (nx+1) 0 [] ((nx,none)::b)):=by
 intro h F σ fr' ks' hr hf hk
 have hlt: ∀ i k,lb i b=some k→i<nx:=by
  intro i k e
  rcases Nat.lt_or_ge i nx with q|q
  ·exact q
  ·have:=hr.plow i q
   rw [show (V.hp nx 0 [] b).t =tOf b from rfl,tOf_get,e] at this
   cases this
 exact (Weak.grow (Nat.le_succ nx) hs fun i k e=>by
  rw [lb] at e
  split at e
  ·cases e
  ·exact ⟨hlt i k e,e⟩) h F σ fr' ks' hr hf hk
theorem Weak.mk' {n:Nat} {l l2:List (Nat×Val)} {ks:List (List Val)} {p p2:Heap} (h:sees l l2) (hp:p=p2):Weak (V.mk n l) ks p (V.mk n l2) ks p2:=by
 subst hp;exact Weak.mk h
theorem GE.roundsW {E:Env} {ks:List (List Val)} {Q:EQ} {α:Type} {n:Nat} (S:α→List (Nat×Val)) (H:α→Heap) (inv:α→Prop) (μ:α→Nat) {a:VC} {l:List (Nat×Val)} {p:Heap} (s:α) (hw:Weak (V.mk n l) ks p (V.mk n (S s)) ks (H s)) (hi:inv s) (hs: ∀ s,inv s→GE E a (V.mk n (S s)) ks (H s) (roundQ n S H ks inv μ (μ s) Q)):GE E (.loop a) (V.mk n l) ks p Q:=
 GE.weak hw (GE.rounds S H inv μ hs s hi)
class Cl (α:Type) where
 c:α→List Val
 k:Nat
 len: ∀ x,(c x).length =k
 lo: ∀ f x,Val.rens f (c x)=c x
 res: ∀ (h:Heap) (n:Nat) (x:α),resL h false (n+1) (c x)=some (c x,[])
structure Mk where
 nil:Bool
 x:Nat
def Mk.m (m:Mk) (k:Nat):Nat:=if m.x=0 then 0 else if m.x=1 then 1 else 2*k
def fl {α:Type} [Cl α] (l:List α):List Val:=l.flatMap Cl.c
def lv {α:Type} [Cl α] (l:List α) (m:Mk):Val:=if m.nil=true∧l=[] then .nils else .list (fl l) l.length (m.m (Cl.k α))
def er {α:Type} [Cl α] (l:List α) (i o:Nat):Val:=.ref (fl l) (i*Cl.k α+o)
def nth {α:Type} [Inhabited α] (l:List α) (i:Nat):α:=l.getD i default
theorem nth_eq {α:Type} [Inhabited α] {l:List α} {i:Nat} (h:i<l.length):nth l i=l[i]:=by
 simp [nth,h]
theorem lv_cases {α:Type} [Cl α] (l:List α) (m:Mk):(l=[]∧lv l m=.nils)∨lv l m=.list (fl l) l.length (m.m (Cl.k α)):=by
 unfold lv
 by_cases h:m.nil=true∧l=[]
 ·rw [if_pos h];exact .inl ⟨h.2,rfl⟩
 ·rw [if_neg h];exact .inr rfl
theorem fl_len {α:Type} [Cl α] (l:List α):(fl l).length =l.length*Cl.k α:=flat_len Cl.len l
theorem fl_nil {α:Type} [Cl α]:fl ([]:List α)=[]:=rfl
theorem fl_cons {α:Type} [Cl α] {x:α} {l:List α}:fl (x::l)=Cl.c x++fl l:=rfl
theorem fl_append {α:Type} [Cl α] {l r:List α}:fl (l++r)=fl l++fl r:=List.flatMap_append
theorem fl_one {α:Type} [Cl α] {x:α}:fl [x]=Cl.c x:=by simp [fl]
theorem fl_rens {α:Type} [Cl α] {f:Nat→Option Nat}: ∀ {l:List α},Val.rens f (fl l)=fl l
 |[]=>rfl
 |x::l=>by
  have app: ∀ a b:List Val,Val.rens f (a++b)=Val.rens f a++Val.rens f b:=by
   intro a b
   induction a with
   |nil=>rfl
   |cons y a ih=>simp only [List.cons_append,Val.rens,ih]
  rw [fl_cons,app,Cl.lo,fl_rens]
theorem rens_append {f:Nat→Option Nat}: ∀ {a b:List Val},Val.rens f (a++b)=Val.rens f a++Val.rens f b
 |[],_=>rfl
 |y::a,b=>by simp only [List.cons_append,Val.rens,rens_append (a:=a)]
theorem resL_app {h:Heap} {st:Bool} {n:Nat}: ∀ {a b a' b':List Val} {u v:List Nat},resL h st n a=some (a',u)→resL h st n b=some (b',v)→resL h st n (a++b)=some (a'++b',u++v)
 |[],b,a',b',u,v,e1,e2=>by
  rw [resL_nil] at e1;cases e1;exact e2
 |x::a,b,a',b',u,v,e1,e2=>by
  obtain ⟨y,p,ys,q,h1,h2,h3⟩:=resL_cons e1
  cases h3
  rw [List.cons_append,resL_cons',h1,resL_app h2 e2]
  simp
theorem fl_res {α:Type} [Cl α] {h:Heap} {n:Nat}: ∀ {l:List α},resL h false (n+1) (fl l)=some (fl l,[])
 |[]=>rfl
 |x::l=>by rw [fl_cons];exact resL_app (Cl.res h n x) (fl_res (l:=l))
section
variable {α:Type} [Cl α] {l:List α} {m:Mk} {i o:Nat}
theorem lv_res {h:Heap} {n:Nat}:resV h false (n+1) (lv l m)=some (lv l m,[]):=by rcases lv_cases l m with ⟨_,h⟩|h<;>rw [h]<;>rfl
theorem lv_ren {f:Nat→Option Nat}:(lv l m).ren f=lv l m:=by rcases lv_cases l m with ⟨_,h⟩|h<;>rw [h]<;>rfl
theorem er_isJ:(er l i o).isJ =false:=rfl
theorem er_isAgg:(er l i o).isAgg =false:=rfl
theorem er_isLi:(er l i o).isLi =false:=rfl
theorem er_isSl:(er l i o).isSl =false:=rfl
theorem er_cells:(er l i o).cells =[er l i o]:=rfl
theorem er_one:(er l i o).one =true:=rfl
theorem er_res {h:Heap} {n:Nat}:resV h false (n+1) (er l i o)=some (er l i o,[]):=rfl
theorem er_lo {M:Nat}:(er l i o).lo M=true:=rfl
theorem er_ren {f:Nat→Option Nat}:(er l i o).ren f=er l i o:=rfl
theorem er_nilOk:nilOk (er l i o)=true:=rfl
end
section
variable {me:TypeId→Val→String→Option (FuncId×Val)} {ca:CallT} {fr:List Val} {h:Heap} {α:Type} [Cl α] {l:List α} {m:Mk} {i o:Nat}
def lenS:Val→Option Val
 | .nils =>some (.int .i64 0)
 | .slice _ _ n _ _=>some (.int .i64 n)
 | .list _ n _=>some (.int .i64 n)
 |_=>none
theorem step_lenOf {x:Opd}:step me ca fr h (.lenOf x)=pureV h (lenS (ev fr x)):=by
 simp only [step];cases ev fr x<;>rfl
theorem lenS_nils:lenS .nils =some (.int .i64 0):=rfl
theorem lenS_slice {b o n c x:Nat}:lenS (.slice b o n c x)=some (.int .i64 n):=rfl
theorem lenS_list {c:List Val} {n x:Nat}:lenS (.list c n x)=some (.int .i64 n):=rfl
theorem lenS_lv:lenS (lv l m)=some (.int .i64 l.length):=by
 rcases lv_cases l m with ⟨rfl,h⟩|h<;>rw [h]<;>rfl
def addrS (size:Nat) (x i:Val):Option Val:=match x,i with
  | .slice b o len _ _,.int _ i=>if 0≤i∧i<len then some (.ptr b (o+i.toNat*size)) else none
  | .list c len _,.int _ i=>if 0≤i∧i<len then some (.ref c (i.toNat*size)) else none
  |_,_=>none
theorem step_iaddr {size:Nat} {x i:Opd}:step me ca fr h (.iaddr size x i)=pureV h (addrS size (ev fr x) (ev fr i)):=by
 simp only [step]
 cases ev fr x<;>(try rfl)<;>cases ev fr i<;>(try rfl)
 all_goals (simp only [addrS];split<;>rfl)
theorem addrS_slice {size b o n c x:Nat} {k:IntKind} {i:Int}:addrS size (.slice b o n c x) (.int k i)=if 0≤i∧i<n then some (.ptr b (o+i.toNat*size)) else none:=rfl
theorem addrS_list {size n x:Nat} {c:List Val} {k:IntKind} {i:Int}:addrS size (.list c n x) (.int k i)=if 0≤i∧i<n then some (.ref c (i.toNat*size)) else none:=rfl
theorem addrS_lv {size:Nat} {k:IntKind} {i:Int} (hh:size=Cl.k α∧0≤i∧i<(l.length:Int)):addrS size (lv l m) (.int k i)=some (er l i.toNat 0):=by
 obtain ⟨rfl,h1,h2⟩:=hh
 rcases lv_cases l m with ⟨rfl,h⟩|h
 ·simp at h2;omega
 ·rw [h,addrS_list,if_pos ⟨h1,h2⟩];rfl
def faddrS (off:Nat):Val→Option Val
  | .ptr b o=>some (.ptr b (o+off))
  | .ref c o=>some (.ref c (o+off))
  |_=>none
theorem step_faddr {off:Nat} {x:Opd}:step me ca fr h (.faddr off x)=pureV h (faddrS off (ev fr x)):=by
 simp only [step];cases ev fr x<;>rfl
theorem faddrS_ptr {off b o:Nat}:faddrS off (.ptr b o)=some (.ptr b (o+off)):=rfl
theorem faddrS_ref {off o:Nat} {c:List Val}:faddrS off (.ref c o)=some (.ref c (o+off)):=rfl
def loadS (h:Heap) (agg:Bool) (n:Nat):Val→Option Val
  | .ptr b o=>match h.load b o n with
   |some l=>if agg then some (.agg l) else match l with
    |[v]=>some v
    |_=>none
   |none=>none
  | .ref c o=>if o+n≤c.length then (if agg then some (.agg ((c.drop o).take n)) else if n=1 then c[o]? else none) else none
  | .zp =>if agg=true∧n=0 then some (.agg []) else none
  |_=>none
theorem step_load {agg:Bool} {n:Nat} {x:Opd}:step me ca fr h (.load agg n x)=pureV h (loadS h agg n (ev fr x)):=by
 simp only [step]
 cases ev fr x<;>(try rfl)
 ·simp only [loadS]
  split
  ·rename_i hh
   rw [hh]
   simp only
   split
   ·rfl
   ·rename_i c _
    rcases c with _|⟨v,_|⟨w,r⟩⟩<;>rfl
  ·rename_i hh
   rw [hh];rfl
 ·simp only [loadS]
  split
  ·split
   ·rfl
   ·split
    ·split
     ·rename_i hh;rw [hh];rfl
     ·rename_i hh;rw [hh];rfl
    ·rfl
  ·rfl
 ·simp only [loadS]
  split<;>rfl
def one1:List Val→Option Val
 |[v]=>some v
 |_=>none
theorem one1_one {v:Val}:one1 [v]=some v:=rfl
def ldS (agg:Bool):Option (List Val)→Option Val
 |some l=>if agg then some (.agg l) else one1 l
 |none=>none
theorem ldS_agg {l:List Val}:ldS true (some l)=some (.agg l):=rfl
theorem ldS_one {l:List Val}:ldS false (some l)=one1 l:=rfl
theorem loadS_ptr {agg:Bool} {n b o:Nat}:loadS h agg n (.ptr b o)=ldS agg (h.load b o n):=by
 simp only [loadS]
 cases h.load b o n<;>rfl
theorem loadS_ref {agg:Bool} {n o:Nat} {c:List Val}:loadS h agg n (.ref c o)=if o+n≤c.length then (if agg then some (.agg ((c.drop o).take n)) else if n=1 then c[o]? else none) else none:=rfl
theorem loadS_zp {agg:Bool} {n:Nat}:loadS h agg n .zp =if agg=true∧n=0 then some (.agg []) else none:=rfl
theorem fl_sub {i:Nat} (hi:i<l.length) {o n:Nat} (ho:o+n≤Cl.k α):((fl l).drop (i*Cl.k α+o)).take n=((Cl.c l[i]).drop o).take n:=flat_sub Cl.len hi ho
theorem loadS_er [Inhabited α] {agg:Bool} {n:Nat} (hh:i<l.length∧o+n≤Cl.k α∧(agg=true∨n=1)):loadS h agg n (er l i o)=ldS agg (some (((Cl.c (nth l i)).drop o).take n)):=by
 obtain ⟨hi,ho,ha⟩:=hh
 unfold er
 have h1:i*Cl.k α+o+n≤(fl l).length :=by
  rw [fl_len]
  have:=Nat.mul_le_mul_right (Cl.k α) (Nat.succ_le_of_lt hi)
  rw [Nat.succ_mul] at this
  omega
 rw [loadS_ref,if_pos h1,nth_eq hi,fl_sub hi ho]
 cases agg with
 |true=>rfl
 |false=>
  rcases ha with ha|rfl
  ·cases ha
  ·rw [if_neg (by simp),if_pos rfl,ldS_one,←fl_sub hi ho]
   rw [List.getElem?_eq_getElem (by omega)]
   have e:((fl l).drop (i*Cl.k α+o)).take 1=[(fl l)[i*Cl.k α+o]]:=by
    rw [List.drop_eq_getElem_cons (by omega)];rfl
   rw [e];rfl
theorem lenVal_lv:lenVal (lv l m)=some l.length:=by
 rcases lv_cases l m with ⟨rfl,h⟩|h<;>rw [h]<;>rfl
theorem first_lv {size n:Nat} (hh:size=Cl.k α∧n≤l.length):firstCells h size n (lv l m)=some (fl (l.take n)):=by
 ·obtain ⟨rfl,h2⟩:=hh
  rcases lv_cases l m with ⟨rfl,h⟩|h
  ·rw [h]
   have:n=0:=by simpa using h2
   subst this;rfl
  ·rw [h]
   simp only [firstCells]
   rw [if_pos ⟨h2,fl_len l⟩]
   congr 1
   have: ∀ (l:List α) (n:Nat),n≤l.length→(fl l).take (n*Cl.k α)=fl (l.take n):=by
    intro l
    induction l with
    |nil=>intro n _;simp [fl]
    |cons x l ih=>
     intro n hn
     cases n with
     |zero=>simp [fl]
     |succ n=>
      rw [List.take_succ_cons,fl_cons,fl_cons,Nat.add_mul,Nat.one_mul,Nat.add_comm,List.take_append,List.take_of_length_le (by rw [Cl.len];omega)]
      congr 1
      rw [Cl.len,Nat.add_sub_cancel_left]
      exact ih n (by simpa using hn)
   exact this l n h2
end
theorem appendN_nils {h:Heap} {size bytes n:Nat} {new:List Val}:appendN h size bytes .nils n new=if n=0 then some (.nils,h) else if n*bytes≤maxBytes∧n≤maxBytes∧0<size then some (.slice (h.new (.cells new)).1 0 n n size,(h.new (.cells new)).2) else none:=rfl
theorem appendN_list {h:Heap} {size bytes n:Nat} {new c:List Val} {len x:Nat}:appendN h size bytes (.list c len x) n new=if n=0 then some (.list c len x,h) else if x=0∧(len+n)*bytes≤maxBytes∧len+n≤maxBytes∧0<size∧c.length=len*size then some (.slice (h.new (.cells (c++new))).1 0 (len+n) (len+n) size,(h.new (.cells (c++new))).2) else none:=rfl
theorem appendN_slice {h : Heap} {size bytes n : Nat} {new : List Val} {b o len cap ls : Nat} : appendN h size bytes (.slice b o len cap ls) n new = if len + n ≤ cap then (if n * size = 0 then some (.slice b o (len + n) cap ls, h)
          else match h.store b (o+len*size) new with
            |some h'=>some (.slice b o (len+n) cap ls,h')
            |none=>none)
        else if (len+n)*bytes≤maxBytes∧len+n≤maxBytes∧0<size then
          match firstCells h size len (.slice b o len cap ls) with
          |none=>none
          |some old=>
            if ls=0 then some (.slice (h.new (.cells (old++new))).1 0 (len+n) (len+n) size,(h.new (.cells (old++new))).2)
            else if h.floor≤b∧ls=size∧new.all Val.one=true∧h.endsBy b (o+(len+n)*size)=true then
              some (.slice ((h.put b none).new (.cells (old++new))).1 0 (len+n) (len+n) size,((h.put b none).new (.cells (old++new))).2)
            else none
        else none:=rfl
theorem sliceVal_nils {fr:List Val} {size:Nat} {lo hi mx:Option Opd}:sliceVal fr size .nils lo hi mx=match bounds fr 0 0 lo hi mx with
  |some _=>some .nils
  |none=>none:=rfl
theorem sliceVal_slice {fr : List Val} {size : Nat} {lo hi mx : Option Opd} {b o len cap ls : Nat} : sliceVal fr size (.slice b o len cap ls) lo hi mx = if ls = 0 ∨ ls = size then (match bounds fr len cap lo hi mx with
    |some (l,k,m)=>some (.slice b (o+l*size) (k - l) (m - l) (if mx.isSome then 0 else ls))
    |none=>none) else none:=rfl
theorem sliceVal_list {fr : List Val} {size : Nat} {lo hi mx : Option Opd} {c : List Val} {len x : Nat} : sliceVal fr size (.list c len x) lo hi mx = if c.length = len * size ∧ (x ≤ 1 ∨ x = 2 * size) then (match bounds fr len len lo hi mx with
    |some (l,k,m)=>some (.list ((c.drop (l*size)).take ((k - l)*size)) (k - l) (if mx.isSome then (if m=k then 0 else 1) else if k=len then x else if x=0 then 1 else x))
    |none=>none) else none:=rfl
def bv (M n k:Nat):Val:=if n=0 then .nils else .slice M 0 n n k
def bb (n:Nat) (c:List Val):Option Blk:=if n=0 then none else some (.cells c)
theorem bv_zero {M k:Nat}:bv M 0 k=.nils :=rfl
theorem bv_succ {M n k:Nat}:bv M (n+1) k=.slice M 0 (n+1) (n+1) k:=rfl
theorem bb_zero {c:List Val}:bb 0 c=none:=rfl
theorem bb_succ {n:Nat} {c:List Val}:bb (n+1) c=some (.cells c):=rfl
theorem bv_cases (M n k:Nat):(n=0∧bv M n k=.nils)∨(n≠0∧bv M n k=.slice M 0 n n k):=by
 unfold bv
 by_cases h:n=0
 ·rw [if_pos h];exact .inl ⟨h,rfl⟩
 ·rw [if_neg h];exact .inr ⟨h,rfl⟩
def gone (n M:Nat) (l:List (Nat×Option Blk)):List (Nat×Option Blk):=if n=0 then l else (M,none)::l
theorem lb_gone {n M b:Nat} {l:List (Nat×Option Blk)} (h:(b=M)=False):lb b (gone n M l)=lb b l:=by
 unfold gone;split
 ·rfl
 ·exact lb_ne h
def bapp:Option Blk→List Val→Option Blk
 |some (.cells c),d=>some (.cells (c++d))
 |_,d=>some (.cells d)
theorem bapp_bb {n:Nat} {c d:List Val} (h:n=0→c=[]):bapp (bb n c) d=some (.cells (c++d)):=by
 unfold bb
 split
 ·rename_i hn;rw [h hn];rfl
 ·rfl
theorem bapp_fl {α:Type} [Cl α] {l:List α} {d:List Val}:bapp (bb l.length (fl l)) d=some (.cells (fl l++d)):=bapp_bb fun h=>by
 rw [List.length_eq_zero_iff] at h;rw [h];rfl
def isB {α:Type} [Cl α] (l:List α) (b:Option Blk):Prop:=b=bb l.length (fl l)
theorem isB_bb {α:Type} [Cl α] {l:List α}:isB l (bb l.length (fl l))=True:=eq_true rfl
theorem isB_c {α:Type} [Cl α] {l:List α} (h:(l=[])=False):isB l (some (.cells (fl l)))=True:=by
 refine eq_true ?_
 unfold isB bb
 rw [if_neg]
 rw [List.length_eq_zero_iff]
 exact fun q=>h.mp q
theorem snoc_ne {α:Type} {l:List α} {x:α}:(l++[x]=[])=False:=by simp
theorem bapp_c {c d:List Val}:bapp (some (.cells c)) d=some (.cells (c++d)):=rfl
def bfit (n k:Nat):Option Blk→Bool
 |some (.cells c)=>decide (n≠0∧c.length=n*k)
 |none=>decide (n=0)
 |_=>false
theorem bfit_fl {α:Type} [Cl α] {l:List α} {k:Nat} (h:k=Cl.k α):bfit l.length k (bb l.length (fl l))=true:=by
 subst h
 unfold bb
 split
 ·rename_i h;simp [bfit,h]
 ·rename_i h;simp only [bfit,decide_eq_true_eq];exact ⟨h,fl_len l⟩
section
variable {M n k i o:Nat} {h:Heap}
theorem lenS_bv:lenS (bv M n k)=some (.int .i64 n):=by
 rcases bv_cases M n k with ⟨rfl,h⟩|⟨_,h⟩<;>rw [h]<;>rfl
theorem lenVal_bv:lenVal (bv M n k)=some n:=by
 rcases bv_cases M n k with ⟨rfl,h⟩|⟨_,h⟩<;>rw [h]<;>rfl
def renB (n k:Nat):Option Nat→Val
 |some c=>bv c n k
 |none=>if n=0 then .nils else .junk
theorem renB_some {c:Nat}:renB n k (some c)=bv c n k:=rfl
theorem bv_ren {f:Nat→Option Nat}:(bv M n k).ren f=renB n k (f M):=by
 rcases bv_cases M n k with ⟨hn,h⟩|⟨hn,h⟩<;>rw [h]
 ·cases f M<;>simp [renB,Val.ren,bv,hn]
 ·simp only [Val.ren]
  cases f M<;>simp [renB,bv,hn]
theorem appendN_bv {nx size bytes m:Nat} {l:List (Nat×Option Blk)} {new:List Val} (hh:(m=0)=False∧size=k∧0<k∧(n+m)*bytes≤maxBytes∧n+m≤maxBytes∧new.all Val.one=true∧bfit n k (lb M l)=true):appendN (V.hp nx 0 [] l) size bytes (bv M n k) m new=some (bv nx (n+m) k,V.hp (nx+1) 0 [] ((nx,bapp (lb M l) new)::gone n M l)):=by
 ·obtain ⟨h0,rfl,hk,h1,h2,h3,h4⟩:=hh
  have h0':m≠0:=by simpa using h0
  have hbv:bv nx (n+m) size=.slice nx 0 (n+m) (n+m) size:=by
   unfold bv;rw [if_neg (by omega)]
  rw [hbv]
  rcases bv_cases M n size with ⟨rfl,e⟩|⟨hn,e⟩
  ·rw [e]
   have hl:lb M l=none:=by
    cases hq:lb M l with
    |none=>rfl
    |some q=>
     rw [hq] at h4
     cases q<;>simp [bfit] at h4
   simp only [appendN]
   rw [if_neg h0',if_pos ⟨by simpa using h1,by simpa using h2,hk⟩,hl]
   simp only [hp_new,gone,Nat.zero_add,bapp,if_true]
  ·rw [e]
   obtain ⟨c,hl,hc⟩: ∃ c,lb M l=some (.cells c)∧c.length=n*size:=by
    cases hq:lb M l with
    |none=>rw [hq] at h4;simp [bfit] at h4;exact absurd h4 hn
    |some q=>
     rw [hq] at h4
     cases q with
     |cells c=>exact ⟨c,rfl,by simp [bfit] at h4;exact h4.2⟩
     |map es=>simp [bfit] at h4
     |rnd st=>simp [bfit] at h4
   simp only [appendN]
   rw [if_neg (by omega),if_pos ⟨h1,h2,hk⟩]
   simp only [firstCells,Nat.le_refl,if_true]
   have hp:0<n*size:=Nat.mul_pos (by omega) hk
   rw [if_neg (by omega),hp_load0,hl]
   simp only [loadB,Nat.zero_add,hc,Nat.le_refl,if_true,List.drop_zero]
   rw [if_neg (by omega),if_pos ⟨Nat.zero_le _,trivial,h3,by
    unfold Heap.endsBy
    rw [hp_get0,hl]
    simp only [decide_eq_true_eq,hc]
    exact Nat.mul_le_mul_right _ (by omega)⟩]
   rw [List.take_of_length_le (by omega)]
   simp only [hp_put,hp_new,bapp,gone,if_neg hn]
theorem bfit_c {α:Type} [Cl α] {l:List α} {k:Nat} (h:k=Cl.k α∧(l=[])=False):bfit l.length k (some (.cells (fl l)))=true:=by
 obtain ⟨rfl,h2⟩:=h
 simp only [bfit,decide_eq_true_eq]
 refine ⟨?_,fl_len l⟩
 rw [ne_eq,List.length_eq_zero_iff]
 exact fun q=>h2.mp q
theorem addrS_bv {size:Nat} {κ:IntKind} {i:Int}:addrS size (bv M n k) (.int κ i)=if 0≤i∧i<n then some (.ptr M (i.toNat*size)) else none:=by
 rcases bv_cases M n k with ⟨rfl,h⟩|⟨_,h⟩
 ·rw [h,if_neg (by simp)];rfl
 ·rw [h,addrS_slice,Nat.zero_add]
end
theorem loadB_c {o n:Nat} {c:List Val}:loadB o n (some (.cells c))=if o+n≤c.length then some ((c.drop o).take n) else none:=rfl
theorem storeB_c {nx fl b:Nat} {hd:List (Nat×Nat)} {l:List (Nat×Option Blk)} {o:Nat} {vs c:List Val}:storeB nx fl b hd l o vs (some (.cells c))=if o+vs.length≤c.length∧vs.all Val.one=true then some (hp nx fl hd ((b,some (.cells (splice c o vs)))::l)) else none:=rfl
theorem loadB_bo {α:Type} [Cl α] [Inhabited α] {l:List α} {i k o n:Nat} (hh:k=Cl.k α∧i<l.length∧o+n≤Cl.k α):loadB (i*k+o) n (bb l.length (fl l))=some (((Cl.c (nth l i)).drop o).take n):=by
 obtain ⟨rfl,hi,ho⟩:=hh
 unfold bb
 rw [if_neg (by omega)]
 have h1:i*Cl.k α+o+n≤(fl l).length :=by
  rw [fl_len]
  have:=Nat.mul_le_mul_right (Cl.k α) (Nat.succ_le_of_lt hi)
  rw [Nat.succ_mul] at this
  omega
 simp only [loadB,h1,if_true]
 rw [fl_sub hi ho,nth_eq hi]
def mS:Mk:=⟨true,2⟩
def bu (n M:Nat):List Nat:=if n=0 then [] else [M]
theorem drops_bu {nx n M:Nat} {L:List (Nat×Option Blk)} {r:List Nat}:drops (V.hp nx 0 [] L) (bu n M++r)=drops (V.hp nx 0 [] (gone n M L)) r:=by
 unfold bu gone
 split
 ·rfl
 ·show drops _ (M::r)=_
  rw [drops,if_pos (show (V.hp nx 0 [] L).floor ≤_ from Nat.zero_le _)];rfl
theorem drops_bu0 {nx n M:Nat} {L:List (Nat×Option Blk)}:drops (V.hp nx 0 [] L) (bu n M)=some (V.hp nx 0 [] (gone n M L)):=by
 have:=drops_bu (nx:=nx) (n:=n) (M:=M) (L:=L) (r:=[])
 rw [List.append_nil] at this
 exact this
theorem drops_nil {p:Heap}:drops p []=some p:=rfl
theorem bv_res {α:Type} [Cl α] {l:List α} {nx f M k n:Nat} {L:List (Nat×Option Blk)} (hh:k=Cl.k α∧0<k∧isB l (lb M L)):resV (V.hp nx f [] L) false (n+2) (bv M l.length k)=some (lv l mS,bu l.length M):=by
 obtain ⟨rfl,hk,hb⟩:=hh
 replace hb:lb M L=bb l.length (fl l):=hb
 cases l with
 |nil=>rfl
 |cons x l=>
  rw [List.length_cons,bv_succ,resV_slice,if_neg (by omega),hp_get0,hb,List.length_cons,bb_succ]
  simp only [sliceC,Nat.zero_le,if_true,List.drop_zero,Nat.sub_zero]
  have e1:(fl (x::l)).length /(l.length+1)=Cl.k α:=by
   rw [fl_len,List.length_cons,Nat.mul_div_cancel_left _ (by omega)]
  rw [e1,List.take_of_length_le (by rw [fl_len,List.length_cons];exact Nat.le_refl _),fl_res]
  simp only [mapF]
  rw [if_neg (by omega)]
  unfold lv mS Mk.m bu
  simp
def slv {α:Type} [Cl α] (l:List α) (m:Mk) (b:Bool):Option (Nat×Nat×Nat)→Option Val
 |some (a,k,mm)=>some (lv ((l.take k).drop a) ⟨m.nil&&l.isEmpty,if b then (if mm=k then 0 else 1) else if k=l.length then m.x else if m.x=0 then 1 else m.x⟩)
 |none=>none
theorem slv_some {α:Type} [Cl α] {l:List α} {m:Mk} {b:Bool} {a k mm:Nat}:slv l m b (some (a,k,mm))=some (lv ((l.take k).drop a) ⟨m.nil&&l.isEmpty,if b then (if mm=k then 0 else 1) else if k=l.length then m.x else if m.x=0 then 1 else m.x⟩):=rfl
theorem bnd_spec {fr:List Val} {y:Nat} {o:Opd} {r:Nat} (h:bnd fr y o=some r):r≤y:=by
 unfold bnd at h
 split at h
 ·split at h
  ·cases h;omega
  ·cases h
 ·cases h
theorem bounds_spec {fr:List Val} {len cap:Nat} {lo hi mx:Option Opd} {a k m:Nat} (h:bounds fr len cap lo hi mx=some (a,k,m)) (hlc:len≤cap):a≤k∧k≤m∧m≤cap:=by
 unfold bounds at h
 split at h
 ·cases h
 ·rename_i m' hm
  have h1:m'≤cap:=by
   split at hm
   ·exact bnd_spec hm
   ·cases hm;exact Nat.le_refl _
  split at h
  ·cases h
  ·rename_i k' hk
   have h2:k'≤m':=by
    split at hk
    ·exact bnd_spec hk
    ·split at hk
     ·cases hk
     ·cases hk
      split at hm
      ·rename_i hmx;simp at hmx
      ·cases hm;exact hlc
   split at h
   ·cases h
   ·rename_i a' ha
    cases h
    refine ⟨?_,h2,h1⟩
    split at ha
    ·exact bnd_spec ha
    ·cases ha;exact Nat.zero_le _
theorem fl_take {α:Type} [Cl α]: ∀ (l:List α) (n:Nat),(fl l).take (n*Cl.k α)=fl (l.take n)
 |[],n=>by simp [fl]
 |x::l,0=>by simp [fl]
 |x::l,n+1=>by
  rw [List.take_succ_cons,fl_cons,fl_cons,Nat.add_mul,Nat.one_mul,Nat.add_comm,List.take_append,List.take_of_length_le (by rw [Cl.len];omega)]
  congr 1
  rw [Cl.len,Nat.add_sub_cancel_left]
  exact fl_take l n
theorem fl_drop {α:Type} [Cl α]: ∀ (l:List α) (n:Nat),(fl l).drop (n*Cl.k α)=fl (l.drop n)
 |[],n=>by simp [fl]
 |x::l,0=>by simp [fl]
 |x::l,n+1=>by
  rw [List.drop_succ_cons,fl_cons,Nat.add_mul,Nat.one_mul,Nat.add_comm,←List.drop_drop,List.drop_left' (Cl.len x)]
  exact fl_drop l n
theorem slice_lv {α:Type} [Cl α] {l:List α} {m:Mk} {fr:List Val} {size:Nat} {lo hi mx:Option Opd} (hh:size=Cl.k α∧0<Cl.k α):sliceVal fr size (lv l m) lo hi mx=slv l m mx.isSome (bounds fr l.length l.length lo hi mx):=by
 obtain ⟨rfl,hk0⟩:=hh
 cases hb:bounds fr l.length l.length lo hi mx with
 |none=>
  rcases lv_cases l m with ⟨rfl,h⟩|h
  ·rw [h];simp only [sliceVal];rw [show bounds fr 0 0 lo hi mx=none from hb];rfl
  ·rw [h];simp only [sliceVal];rw [hb];split<;>rfl
 |some q=>
  obtain ⟨a,k,mm⟩:=q
  obtain ⟨h1,h2,h3⟩:=bounds_spec hb (Nat.le_refl _)
  rw [slv_some]
  by_cases hc:m.nil=true∧l=[]
  ·obtain ⟨hn,rfl⟩:=hc
   have e:lv ([]:List α) m=.nils :=by unfold lv;rw [if_pos ⟨hn,rfl⟩]
   rw [e]
   simp only [sliceVal]
   rw [show bounds fr 0 0 lo hi mx=some (a,k,mm) from hb]
   simp only [List.take_nil,List.drop_nil]
   unfold lv
   rw [if_pos ⟨by simp [hn],rfl⟩]
  ·have e:lv l m=.list (fl l) l.length (m.m (Cl.k α)):=by unfold lv;rw [if_neg hc]
   rw [e]
   simp only [sliceVal]
   have hm:m.m (Cl.k α)≤1∨m.m (Cl.k α)=2*Cl.k α:=by
    unfold Mk.m;split
    ·left;omega
    ·split
     ·left;omega
     ·right;rfl
   rw [if_pos ⟨fl_len l,hm⟩,hb]
   simp only
   have hne:(m.nil&&l.isEmpty)=false:=by
    cases hn:m.nil with
    |false=>rfl
    |true=>
     cases l with
     |nil=>exact absurd ⟨hn,rfl⟩ hc
     |cons x l=>rfl
   have e2:((l.take k).drop a).length =k - a:=by simp;omega
   have e3:((fl l).drop (a*Cl.k α)).take ((k - a)*Cl.k α)=fl ((l.take k).drop a):=by
    rw [fl_drop,fl_take,List.drop_take]
   have e4:(if mx.isSome=true then (if mm=k then 0 else 1) else if k=l.length then m.m (Cl.k α) else if m.m (Cl.k α)=0 then 1 else m.m (Cl.k α))=Mk.m ⟨m.nil&&l.isEmpty,if mx.isSome=true then (if mm=k then 0 else 1) else if k=l.length then m.x else if m.x=0 then 1 else m.x⟩ (Cl.k α):=by
    cases hmx:mx.isSome with
    |true=>
     unfold Mk.m
     simp only [if_true]
     by_cases q:mm=k<;>simp [q]
    |false=>
     unfold Mk.m
     simp only [Bool.false_eq_true,if_false]
     by_cases q:k=l.length
     ·simp [q]
     ·simp only [q,if_false]
      by_cases q0:m.x=0
      ·simp [q0]
      ·by_cases q1:m.x=1
       ·simp [q1]
       ·simp only [q0,q1,if_false]
        rw [if_neg (by omega)]
   have e5:lv ((l.take k).drop a) ⟨m.nil&&l.isEmpty,if mx.isSome=true then (if mm=k then 0 else 1) else if k=l.length then m.x else if m.x=0 then 1 else m.x⟩=.list (fl ((l.take k).drop a)) ((l.take k).drop a).length (Mk.m ⟨m.nil&&l.isEmpty,if mx.isSome=true then (if mm=k then 0 else 1) else if k=l.length then m.x else if m.x=0 then 1 else m.x⟩ (Cl.k α)):=by
    unfold lv
    rw [if_neg (by rw [hne];simp)]
   rw [e5,e2,e3,e4]
section
variable {f:Nat→Option Nat}
theorem ren_undef:Val.ren f .undef =.undef :=rfl
theorem ren_bool {b:Bool}:Val.ren f (.bool b)=.bool b:=rfl
theorem ren_int {k:IntKind} {n:Int}:Val.ren f (.int k n)=.int k n:=rfl
theorem ren_str {s:List UInt8}:Val.ren f (.str s)=.str s:=rfl
theorem ren_nilp:Val.ren f .nilp =.nilp :=rfl
theorem ren_nils:Val.ren f .nils =.nils :=rfl
theorem ren_nilm:Val.ren f .nilm =.nilm :=rfl
theorem ren_nilf:Val.ren f .nilf =.nilf :=rfl
theorem ren_nili:Val.ren f .nili =.nili :=rfl
theorem ren_ref {c:List Val} {o:Nat}:Val.ren f (.ref c o)=.ref c o:=rfl
theorem ren_list {c:List Val} {n x:Nat}:Val.ren f (.list c n x)=.list c n x:=rfl
theorem ren_vmap {k v:List Val}:Val.ren f (.vmap k v)=.vmap k v:=rfl
theorem ren_zp:Val.ren f .zp =.zp :=rfl
theorem ren_junk:Val.ren f .junk =.junk :=rfl
def renP (o:Nat):Option Nat→Val
 |some c=>.ptr c o
 |none=>.junk
def renS (o n cap ls:Nat):Option Nat→Val
 |some c=>.slice c o n cap ls
 |none=>.junk
def renM:Option Nat→Val
 |some c=>.map c
 |none=>.junk
theorem renP_some {o c:Nat}:renP o (some c)=.ptr c o:=rfl
theorem renS_some {o n cap ls c:Nat}:renS o n cap ls (some c)=.slice c o n cap ls:=rfl
theorem renM_some {c:Nat}:renM (some c)=.map c:=rfl
theorem ren_ptr {b o:Nat}:Val.ren f (.ptr b o)=renP o (f b):=by
 simp only [Val.ren];cases f b<;>rfl
theorem rens_nil:Val.rens f []=[]:=rfl
theorem rens_cons {x:Val} {l:List Val}:Val.rens f (x::l)=Val.ren f x::Val.rens f l:=by rw [Val.rens]
theorem bren_cells {c:List Val}:Blk.ren f (.cells c)=.cells (Val.rens f c):=rfl
theorem bren_rnd {s:Nat}:Blk.ren f (.rnd s)=.rnd s:=rfl
theorem bren_some {k:Blk}:Option.map (Blk.ren f) (some k)=some (Blk.ren f k):=rfl
theorem bren_none:Option.map (Blk.ren f) none=none:=rfl
theorem seesR_nil {l:List (Nat×Val)}:seesR f l []=True:=rfl
theorem seesR_cons {l:List (Nat×Val)} {d:Nat} {v:Val} {r:List (Nat×Val)}:seesR f l ((d,v)::r)=(v=(lk d l).ren f∧seesR f l r):=rfl
theorem seesN_nil {M:Nat} {js:List Nat} {b:List (Nat×Option Blk)}:seesN M js b []=True:=rfl
theorem seesN_cons {M:Nat} {js:List Nat} {b:List (Nat×Option Blk)} {i:Nat} {x:Option Blk} {r:List (Nat×Option Blk)}:seesN M js b ((i,x)::r)=((i<M+js.length∧x=(lb (org M js i) b).map (Blk.ren (rf M js)))∧seesN M js b r):=rfl
theorem lb_nil {b:Nat}:lb b []=none:=rfl
theorem ksren_nil:ksren f []=[]:=rfl
end
end Go.V
end
section
set_option maxRecDepth 100000
set_option maxHeartbeats 4000000
namespace Go.V
structure Box (R:Prop):Type where
 out:R
structure TR (R:Prop):Prop where
theorem TR.tt:TR True:=⟨⟩
theorem zTR {R:Prop}:TR R:=⟨⟩
theorem zEx {A B:Bool→List Val→Prop} {st:Bool} {l:List Val} (c:A st l) (k:B st l): ∃ st l,A st l∧B st l:=⟨st,l,c,k⟩
theorem PC.fw {f:Nat} {a l:List Val} {st:Bool} {R:Prop} (zr:R) (h1:(fnP prog NF f).isSome =true:=by kernel_rfl) (h2:Nat.ble a.length (vv f).ntmps =true:=by kernel_rfl)
  (zh:Box R→ ∀ w,w=vv f→GE EN w.body (V.mk w.ntmps (argsL 0 a)) [] (hp 0 0 [] []) (fun ex fr _ p'=>(∀ i,ex≠.exit i)∧ ∃ r,readResults fr p' w.results=some r∧outO st p' r=some l):=by
   intro zr zw zv
   conv at zv=>rhs;reduce
   try simp only [Int.ofNat_eq_natCast,Int.cast_ofNat_Int,Int.reduceNegSucc] at zv
   subst zv
   exact zr.out):PC EN f a st l:=
 PC.fn (vf:=vv f) (some_getD h1) (zh ⟨zr⟩ _ rfl) (Nat.le_of_ble_eq_true h2) rfl
end Go.V
end
section
set_option maxRecDepth 100000
set_option maxHeartbeats 4000000
namespace Go.V
abbrev Str:=List UInt8
structure Obj where
 space:Str
 id:Str
 deriving DecidableEq
structure Goal where
 obj:Obj
 rel:Str
 deriving DecidableEq
structure Tup where
 goal:Goal
 sub:Goal
 deriving DecidableEq
abbrev Tup.c (x:Tup):List Val:=[.str x.goal.obj.space,.str x.goal.obj.id,.str x.goal.rel,.str x.sub.obj.space,.str x.sub.obj.id,.str x.sub.rel]
inductive T (P:Type) where
 |nil
 |node (p:P) (l r:T P) (n d:Nat)
section
variable {P:Type} {c:P→List Val}
def T.v (c:P→List Val):T P→Val
 | .nil =>.nilp
 | .node p l r n d=>.ref (c p++[T.v c l,T.v c r,.int .i64 n,.int .i64 d]) 0
def T.sz:T P→Nat
 | .nil =>0
 | .node _ _ _ n _=>n
def T.dp:T P→Nat
 | .nil =>0
 | .node _ _ _ _ d=>d
theorem T.sz_nil:T.sz (.nil :T P)=0:=rfl
theorem T.sz_node {p:P} {l r:T P} {n d:Nat}:T.sz (.node p l r n d)=n:=rfl
theorem T.dp_nil:T.dp (.nil :T P)=0:=rfl
theorem T.dp_node {p:P} {l r:T P} {n d:Nat}:T.dp (.node p l r n d)=d:=rfl
def T.lim (N:Nat):T P→Prop
 | .nil =>True
 | .node _ l r n d=>n≤N∧d≤N∧l.lim N∧r.lim N
theorem T.v_nil:T.v c .nil =.nilp :=rfl
theorem T.v_node {p:P} {l r:T P} {n d:Nat}:T.v c (.node p l r n d)=.ref (c p++[T.v c l,T.v c r,.int .i64 n,.int .i64 d]) 0:=rfl
theorem T.v_cells {t:T P}:(T.v c t).cells =[T.v c t]:=by cases t<;>rfl
theorem T.v_isJ {t:T P}:(T.v c t).isJ =false:=by cases t<;>rfl
theorem T.v_isLi {t:T P}:(T.v c t).isLi =false:=by cases t<;>rfl
theorem T.v_isSl {t:T P}:(T.v c t).isSl =false:=by cases t<;>rfl
theorem T.v_one {t:T P}:(T.v c t).one =true:=by cases t<;>rfl
theorem T.v_lo {t:T P} {M:Nat}:(T.v c t).lo M=true:=by cases t<;>rfl
theorem T.v_res {t:T P} {h:Heap} {n:Nat}:resV h false (n+1) (T.v c t)=some (T.v c t,[]):=by cases t<;>rfl
def T.join (p:P) (l r:T P):T P:=.node p l r (l.sz+1+r.sz) (1+max l.dp r.dp)
def T.balance (p:P) (l r:T P):T P:=
 if (l.dp:Int) - r.dp>1 then match l with
  | .nil =>.nil
  | .node lp ll lr _ _=>if (ll.dp:Int)≥lr.dp then join lp ll (join p lr r) else match lr with
   | .nil =>.nil
   | .node m ml mr _ _=>join m (join lp ll ml) (join p mr r)
 else if (l.dp:Int) - r.dp< -1 then match r with
  | .nil =>.nil
  | .node rp rl rr _ _=>if (rr.dp:Int)≥rl.dp then join rp (join p l rl) rr else match rl with
   | .nil =>.nil
   | .node m ml mr _ _=>join m (join p l ml) (join rp mr rr)
 else join p l r
def T.put {K:Type} (key:P→K) (repl:P→P→P) (cmp:K→K→Int) (p:P):T P→T P
 | .nil =>join p .nil .nil
 | .node q l r _ _=>if cmp (key p) (key q)<0 then balance q (T.put key repl cmp p l) r else if cmp (key p) (key q)>0 then balance q l (T.put key repl cmp p r) else join (repl q p) l r
theorem T.lim_sz {N:Nat} {t:T P} (h:t.lim N):t.sz≤N∧t.dp≤N:=by
 cases t with
 |nil=>exact ⟨Nat.zero_le _,Nat.zero_le _⟩
 |node p l r n d=>exact ⟨h.1,h.2.1⟩
theorem T.balance_mid {p:P} {l r:T P} (h1:((l.dp:Int) - r.dp>1)=False) (h2:((l.dp:Int) - r.dp< -1)=False):balance p l r=join p l r:=by
 unfold balance;rw [if_neg (by rw [h1];exact id),if_neg (by rw [h2];exact id)]
theorem T.balance_ll {p lp:P} {ll lr r:T P} {n d:Nat} (h1:((d:Int) - r.dp>1)=True) (h2:((ll.dp:Int)≥lr.dp)=True):balance p (.node lp ll lr n d) r=join lp ll (join p lr r):=by
 unfold balance;rw [if_pos (show ((T.dp (.node lp ll lr n d):Nat):Int) - r.dp>1 from of_eq_true h1)];simp only;rw [if_pos (of_eq_true h2)]
theorem T.balance_lr {p lp m:P} {ll ml mr r:T P} {n d n2 d2:Nat} (h1:((d:Int) - r.dp>1)=True) (h2:((ll.dp:Int)≥(d2:Int))=False):balance p (.node lp ll (.node m ml mr n2 d2) n d) r=join m (join lp ll ml) (join p mr r):=by
 unfold balance;rw [if_pos (show ((T.dp (.node lp ll (.node m ml mr n2 d2) n d):Nat):Int) - r.dp>1 from of_eq_true h1)];simp only;rw [if_neg (by rw [T.dp_node,h2];exact id)]
theorem T.balance_rr {p rp:P} {l rl rr:T P} {n d:Nat} (h0:((l.dp:Int) - (d:Int)>1)=False) (h1:((l.dp:Int) - (d:Int)< -1)=True) (h2:((rr.dp:Int)≥rl.dp)=True):balance p l (.node rp rl rr n d)=join rp (join p l rl) rr:=by
 unfold balance;rw [if_neg (by rw [T.dp_node,h0];exact id),if_pos (show (l.dp:Int) - ((T.dp (.node rp rl rr n d):Nat):Int)< -1 from of_eq_true h1)];simp only;rw [if_pos (of_eq_true h2)]
theorem T.balance_rl {p rp m:P} {l ml mr rr:T P} {n d n2 d2:Nat} (h0:((l.dp:Int) - (d:Int)>1)=False) (h1:((l.dp:Int) - (d:Int)< -1)=True) (h2:((rr.dp:Int)≥(d2:Int))=False):balance p l (.node rp (.node m ml mr n2 d2) rr n d)=join m (join p l ml) (join rp mr rr):=by
 unfold balance;rw [if_neg (by rw [T.dp_node,h0];exact id),if_pos (show (l.dp:Int) - ((T.dp (.node rp (.node m ml mr n2 d2) rr n d):Nat):Int)< -1 from of_eq_true h1)];simp only;rw [if_neg (by rw [T.dp_node,h2];exact id)]
def T.list:T P→List P
 | .nil =>[]
 | .node p l r _ _=>l.list++p::r.list
def T.ok:T P→Prop
 | .nil =>True
 | .node p l r n d=>l.ok∧r.ok∧n=(T.list (.node p l r n d)).length ∧d≤n
theorem T.ok_sz {t:T P} (h:t.ok):t.sz=t.list.length:=by
 cases t with
 |nil=>rfl
 |node p l r n d=>exact h.2.2.1
theorem T.ok_dp {t:T P} (h:t.ok):t.dp≤t.list.length:=by
 cases t with
 |nil=>exact Nat.le_refl _
 |node p l r n d=>rw [←h.2.2.1];exact h.2.2.2
theorem T.join_list (p:P) (l r:T P):(join p l r).list =l.list++p::r.list:=rfl
theorem T.join_ok {p:P} {l r:T P} (hl:l.ok) (hr:r.ok):(join p l r).ok :=by
 refine ⟨hl,hr,?_,?_⟩
 ·simp [T.list,T.ok_sz hl,T.ok_sz hr];omega
 ·have:=T.ok_dp hl
  have:=T.ok_dp hr
  rw [T.ok_sz hl,T.ok_sz hr];omega
theorem T.balance_ok {p:P} {l r:T P} (hl:l.ok) (hr:r.ok):(balance p l r).ok ∧(balance p l r).list =l.list++p::r.list:=by
 unfold balance
 split
 ·rename_i h
  cases l with
  |nil=>simp [T.dp] at h;try omega
  |node lp ll lr n d=>
   simp only
   split
   ·exact ⟨join_ok hl.1 (join_ok hl.2.1 hr),by simp [T.list,T.join]⟩
   ·rename_i h2
    cases lr with
    |nil=>simp [T.dp] at h2
    |node m ml mr n2 d2=>exact ⟨join_ok (join_ok hl.1 hl.2.1.1) (join_ok hl.2.1.2.1 hr),by simp [T.list,T.join]⟩
 ·split
  ·rename_i h
   cases r with
   |nil=>simp [T.dp] at h;try omega
   |node rp rl rr n d=>
    simp only
    split
    ·exact ⟨join_ok (join_ok hl hr.1) hr.2.1,by simp [T.list,T.join]⟩
    ·rename_i h2
     cases rl with
     |nil=>simp [T.dp] at h2
     |node m ml mr n2 d2=>exact ⟨join_ok (join_ok hl hr.1.1) (join_ok hr.1.2.1 hr.2.1),by simp [T.list,T.join]⟩
  ·exact ⟨join_ok hl hr,rfl⟩
theorem T.put_ok {K:Type} {key:P→K} {repl:P→P→P} {cmp:K→K→Int} {p:P}: ∀ {t:T P},t.ok→(T.put key repl cmp p t).ok ∧(T.put key repl cmp p t).list.length ≤t.list.length+1
 | .nil,_=>⟨join_ok trivial trivial,Nat.le_refl _⟩
 | .node q l r n d,h=>by
  obtain ⟨h1,h2⟩:=T.put_ok (key:=key) (repl:=repl) (cmp:=cmp) (p:=p) h.1
  obtain ⟨h3,h4⟩:=T.put_ok (key:=key) (repl:=repl) (cmp:=cmp) (p:=p) h.2.1
  unfold T.put
  split
  ·obtain ⟨a,b⟩:=balance_ok (p:=q) h1 h.2.1
   refine ⟨a,?_⟩
   rw [b];simp only [T.list,List.length_append,List.length_cons];omega
  ·split
   ·obtain ⟨a,b⟩:=balance_ok (p:=q) h.1 h3
    refine ⟨a,?_⟩
    rw [b];simp only [T.list,List.length_append,List.length_cons];omega
   ·exact ⟨join_ok h.1 h.2.1,by simp [T.list,T.join]⟩
def T.get {K V:Type} (cmp:K→K→Int) (k:K):T (K×V)→Option V
 | .nil =>none
 | .node q l r _ _=>if cmp k q.1=0 then some q.2 else if cmp k q.1<0 then T.get cmp k l else T.get cmp k r
def T.cnt:T P→Nat
 | .nil =>0
 | .node _ l r _ _=>l.cnt+1+r.cnt
theorem T.ok_lim {t:T P} (h:t.ok): ∀ {N:Nat},t.list.length≤N→t.lim N:=by
 induction t with
 |nil=>intro _ _;trivial
 |node p l r n d ihl ihr=>
  intro N hN
  have h3:=h.2.2.1
  have h4:=h.2.2.2
  have hlen:(T.list (.node p l r n d)).length =l.list.length+(r.list.length+1):=by simp [T.list]
  exact ⟨by omega,by omega,ihl h.1 (by omega),ihr h.2.1 (by omega)⟩
end
theorem i64_small {n:Int} (h1: -4611686018427387904≤n) (h2:n≤4611686018427387904):IntKind.i64.wrap n=n:=wrap_i64 (by omega) (by omega)
theorem max_int (a b:Nat):(if (b:Int)>(a:Int) then (b:Int) else (a:Int))=((max a b:Nat):Int):=by
 split<;>omega
abbrev cC (p:(Tup×Unit)):List Val:=[.str p.1.goal.obj.space,.str p.1.goal.obj.id,.str p.1.goal.rel,.str p.1.sub.obj.space,.str p.1.sub.obj.id,.str p.1.sub.rel]
theorem resL_flat {α:Type} {c:α→List Val} (h:Heap) (st:Bool) (n:Nat) (hc: ∀ x r,resL h st n (c x++r)=(resL h st n r).map fun e=>(c x++e.1,e.2)): ∀ l:List α,resL h st n (l.flatMap c)=some (l.flatMap c,[])
 |[]=>resL_nil
 |x::l=>by rw [List.flatMap_cons,hc,resL_flat h st n hc l];rfl
theorem resL_tups {h:Heap} {st:Bool} {n:Nat} {l:List Tup}:resL h st (n+1) (l.flatMap Tup.c)=some (l.flatMap Tup.c,[]):=by
 refine resL_flat _ _ _ (fun x r=> ?_) _
 simp only [Tup.c,List.cons_append,List.nil_append,resL_cons',resV_str]
 cases resL h st (n+1) r<;>rfl
instance:Inhabited Obj:=⟨⟨[],[]⟩⟩
instance:Cl Obj where
 c x:=[.str x.space,.str x.id]
 k:=2
 len _:=rfl
 lo _ _:=rfl
 res _ _ _:=rfl
theorem k_obj:Cl.k Obj=2:=rfl
theorem c_obj {x:Obj}:Cl.c x=[.str x.space,.str x.id]:=rfl
theorem obj_eq {a b:Obj}:(a=b)↔(a.space=b.space∧a.id=b.id):=by
 obtain ⟨a1,a2⟩:=a
 obtain ⟨b1,b2⟩:=b
 simp
theorem obj_dec (a b:Obj):(a.space==b.space&&a.id==b.id)=decide (a=b):=by
 rw [Bool.eq_iff_iff];simp [obj_eq]
theorem lv_nilS {α:Type} [Cl α]:lv ([]:List α) mS=.nils :=by unfold lv mS;simp
theorem wrap1 {i:Nat} (h:i<4611686018427387904):IntKind.i64.wrap ((i:Int)+1)=((i+1:Nat):Int):=by unfold IntKind.wrap;simp (decide:=true) [IntKind.signed,IntKind.bits];omega
theorem mb {n k:Nat} (h:n≤1000000000) (hk:k≤1000:=by decide):(n*k≤maxBytes)=True:=by
 refine eq_true ?_
 have:=Nat.mul_le_mul h hk
 unfold maxBytes
 omega
theorem mb1 {n:Nat} (h:n≤1000000000):(n≤maxBytes)=True:=by
 have:=mb (n:=n) (k:=1) h
 simpa using this
end Go.V
end
section
set_option maxRecDepth 100000
set_option maxHeartbeats 4000000
namespace Go.V
theorem zWC {P R:Prop} (zr:R) (zh:Box R→P:=by
  intro zr
  simp (decide:=true) only [sees,mk_getD,ev_mk,ev_c,lk_eq,lk_ne,setDst_mk,setDst_no,argsL,Nat.reduceEqDiff,Nat.reduceLT,Nat.reduceLeDiff,Nat.reduceAdd,Nat.reduceMul,Nat.reduceSub,Nat.reduceDiv,Nat.reduceMod,Nat.reduceBEq,Nat.reduceBNe,Nat.zero_add,Nat.add_zero,Nat.mul_one,Nat.zero_le,Nat.le_refl,Int.reduceLT,Int.reduceLE,Int.reduceToNat,Int.reduceBEq,Int.reduceNeg,Int.reduceAdd,Int.toNat_natCast,Int.cast_ofNat_Int,if_true,if_false,reduceIte,reduceCtorEq,Bool.false_eq_true,Bool.true_beq,Bool.false_beq,Bool.not_true,Bool.not_false,Bool.and_true,Bool.true_and,Bool.and_false,Bool.false_and,Bool.and_self,Bool.or_true,Bool.true_or,Bool.or_false,Bool.false_or,beq_self_eq_true,true_and,and_true,and_self,true_or,or_true,false_or,or_false,decide_true,decide_false,Option.toList_none,Option.toList_some,Nat.sub_zero,List.length_cons,List.length_nil,List.all_cons,List.all_nil,List.nil_append,List.cons_append,List.append_nil,List.take_zero,List.take_succ_cons,List.drop_zero,List.drop_succ_cons,List.take_nil,List.drop_nil,List.getElem?_cons_zero,List.getElem?_cons_succ,List.map_cons,List.map_nil,ne_eq,not_true_eq_false,not_false_eq_true,T.v_cells,T.v_isJ,T.v_isLi,T.v_isSl,T.v_one,T.v_res,fz_one,fz_res,T.v_node,T.v_nil,T.sz_nil,T.sz_node,T.dp_nil,T.dp_node,cC,k_obj,c_obj,toByte,Int.toNat_natCast,Bool.decide_eq_true,lv_nilS,↓step_lenOf,↓step_iaddr,↓step_faddr,↓step_load,lenS_nils,lenS_slice,lenS_list,lenS_lv,lenS_bv,addrS_slice,addrS_list,addrS_lv,addrS_bv,faddrS_ptr,faddrS_ref,loadS_ptr,loadS_ref,loadS_zp,loadS_er,ldS_agg,ldS_one,one1_one,lenVal_lv,lenVal_bv,first_lv,slice_lv,slv_some,appendN_bv,bapp_fl,bapp_c,bfit_fl,bfit_c,isB_bb,isB_c,snoc_ne,lb_gone,lv_res,er_isJ,er_isAgg,er_isLi,er_isSl,er_cells,er_one,er_res,er_lo,er_nilOk,bv_res,drops_bu,drops_bu0,drops_nil,Nat.zero_lt_one,gt_iff_lt,ge_iff_le,Int.lt_irrefl,Nat.lt_irrefl,Option.isSome_none,Option.isSome_some, *]
  all_goals exact zr.out) (zt:TR R:=by first|exact TR.tt|exact zTR):P:=zh ⟨zr⟩
theorem zUC {P R:Prop} (zr:R) (zh:Box R→P:=by
  intro zr
  simp (decide:=true) only [condG,pcV,readResults,pcX,pcG,outG,evs,resL_nil,resL_cons',resV_undef,resV_bool,resV_int,resV_str,resV_nilp,resV_nils,resV_nilm,resV_nilf,resV_nili,resV_junk,resV_ref,resV_list,resV_vmap,resV_agg,resV_tup,resV_func,resV_ptr,resV_slice,mapF,ptrCt,sliceC,deep,outcome,drops,inL_nil,inL_other,inL_list,isLi_undef,isLi_bool,isLi_int,isLi_str,isLi_nilp,isLi_ptr,isLi_nils,isLi_slice,isLi_nilm,isLi_map,isLi_nilf,isLi_func,isLi_nili,isLi_iface,isLi_agg,isLi_tup,isLi_ref,isLi_list,isLi_vmap,isLi_zp,isLi_junk,resultOf,↓goG_cons,↓goG_nil,↓opG_mk,isCall,toByte,wanted,step,cells_undef,cells_bool,cells_int,cells_str,cells_nilp,cells_ptr,cells_nils,cells_slice,cells_nilm,cells_map,cells_nilf,cells_func,cells_nili,cells_iface,cells_agg,cells_tup,cells_ref,cells_list,cells_vmap,cells_zp,cells_junk,nojunk,isJ_undef,isJ_bool,isJ_int,isJ_str,isJ_nilp,isJ_ptr,isJ_nils,isJ_slice,isJ_nilm,isJ_map,isJ_nilf,isJ_func,isJ_nili,isJ_iface,isJ_agg,isJ_tup,isJ_ref,isJ_list,isJ_vmap,isJ_zp,isJ_junk,VOp.opds,VOp.jops,pureV,arith,intBin,unary,minmaxL,eqVal,eqAt,eqv,eqNil,isAgg_undef,isAgg_bool,isAgg_int,isAgg_str,isAgg_nilp,isAgg_ptr,isAgg_nils,isAgg_slice,isAgg_nilm,isAgg_map,isAgg_nilf,isAgg_func,isAgg_nili,isAgg_iface,isAgg_agg,isAgg_tup,isAgg_ref,isAgg_list,isAgg_vmap,isAgg_zp,isAgg_junk,fill,nilOk,append,appendN_nils,appendN_list,appendN_slice,lenVal,firstCells,sliceVal_nils,sliceVal_slice,sliceVal_list,bounds,bnd,intOf?,repeatL,Option.isSome,Option.map_some,Option.getD_some,Option.getD_none,outer,findKey,hp_next,hp_floor,hp_hid,hp_new,hp_put,hp_load0,hp_load,hp_get0,hp_get,hp_store,hp_part,hp_unpart,hdn,hiddenOf,loadB_c,loadB_bo,storeB_c,lb_eq,lb_ne,splice,one_undef,one_bool,one_int,one_str,one_nilp,one_ptr,one_nils,one_slice,one_nilm,one_map,one_nilf,one_func,one_nili,one_iface,one_agg,one_tup,one_ref,one_list,one_vmap,one_zp,one_junk,sees,mk_getD,ev_mk,ev_c,lk_eq,lk_ne,setDst_mk,setDst_no,argsL,Nat.reduceEqDiff,Nat.reduceLT,Nat.reduceLeDiff,Nat.reduceAdd,Nat.reduceMul,Nat.reduceSub,Nat.reduceDiv,Nat.reduceMod,Nat.reduceBEq,Nat.reduceBNe,Nat.zero_add,Nat.add_zero,Nat.mul_one,Nat.zero_le,Nat.le_refl,Int.reduceLT,Int.reduceLE,Int.reduceToNat,Int.reduceBEq,Int.reduceNeg,Int.reduceAdd,Int.toNat_natCast,Int.cast_ofNat_Int,if_true,if_false,reduceIte,reduceCtorEq,Bool.false_eq_true,Bool.true_beq,Bool.false_beq,Bool.not_true,Bool.not_false,Bool.and_true,Bool.true_and,Bool.and_false,Bool.false_and,Bool.and_self,Bool.or_true,Bool.true_or,Bool.or_false,Bool.false_or,beq_self_eq_true,true_and,and_true,and_self,true_or,or_true,false_or,or_false,decide_true,decide_false,Option.toList_none,Option.toList_some,Nat.sub_zero,List.length_cons,List.length_nil,List.all_cons,List.all_nil,List.nil_append,List.cons_append,List.append_nil,List.take_zero,List.take_succ_cons,List.drop_zero,List.drop_succ_cons,List.take_nil,List.drop_nil,List.getElem?_cons_zero,List.getElem?_cons_succ,List.map_cons,List.map_nil,ne_eq,not_true_eq_false,not_false_eq_true,↓goD_mk,↓goD_nil,seenD,backD,allD,VOp.kind,List.getD_cons_zero,List.getD_cons_succ,List.getD_nil,T.v_cells,T.v_isJ,T.v_isLi,T.v_isSl,T.v_one,T.v_res,fz_one,fz_res,T.v_node,T.v_nil,T.sz_nil,T.sz_node,T.dp_nil,T.dp_node,cC,k_obj,c_obj,toByte,Int.toNat_natCast,Bool.decide_eq_true,lv_nilS,↓step_lenOf,↓step_iaddr,↓step_faddr,↓step_load,lenS_nils,lenS_slice,lenS_list,lenS_lv,lenS_bv,addrS_slice,addrS_list,addrS_lv,addrS_bv,faddrS_ptr,faddrS_ref,loadS_ptr,loadS_ref,loadS_zp,loadS_er,ldS_agg,ldS_one,one1_one,lenVal_lv,lenVal_bv,first_lv,slice_lv,slv_some,appendN_bv,bapp_fl,bapp_c,bfit_fl,bfit_c,isB_bb,isB_c,snoc_ne,lb_gone,lv_res,er_isJ,er_isAgg,er_isLi,er_isSl,er_cells,er_one,er_res,er_lo,er_nilOk,bv_res,drops_bu,drops_bu0,drops_nil,Nat.zero_lt_one,gt_iff_lt,ge_iff_le,Int.lt_irrefl,Nat.lt_irrefl,Option.isSome_none,Option.isSome_some, *]
  all_goals exact zr.out) (zt:TR R:=by first|exact TR.tt|exact zTR):P:=zh ⟨zr⟩
theorem zOC {P R:Prop} (zr:R) (zh:Box R→P:=by
  intro zr
  simp (decide:=true) only [outO,newOf_nil,newOf_fresh,newOf_other,isSl_undef,isSl_bool,isSl_int,isSl_str,isSl_nilp,isSl_ptr,isSl_nils,isSl_slice,isSl_nilm,isSl_map,isSl_nilf,isSl_func,isSl_nili,isSl_iface,isSl_agg,isSl_tup,isSl_ref,isSl_list,isSl_vmap,isSl_zp,isSl_junk,without,outL_nil,outL_other,outC,freshC,readResults,mk_getD,pcX,pcG,outG,evs,resL_nil,resL_cons',resV_undef,resV_bool,resV_int,resV_str,resV_nilp,resV_nils,resV_nilm,resV_nilf,resV_nili,resV_junk,resV_ref,resV_list,resV_vmap,resV_agg,resV_tup,resV_func,resV_ptr,resV_slice,mapF,ptrCt,sliceC,deep,outcome,drops,inL_nil,inL_other,inL_list,isLi_undef,isLi_bool,isLi_int,isLi_str,isLi_nilp,isLi_ptr,isLi_nils,isLi_slice,isLi_nilm,isLi_map,isLi_nilf,isLi_func,isLi_nili,isLi_iface,isLi_agg,isLi_tup,isLi_ref,isLi_list,isLi_vmap,isLi_zp,isLi_junk,resultOf,↓goG_cons,↓goG_nil,↓opG_mk,isCall,toByte,wanted,step,cells_undef,cells_bool,cells_int,cells_str,cells_nilp,cells_ptr,cells_nils,cells_slice,cells_nilm,cells_map,cells_nilf,cells_func,cells_nili,cells_iface,cells_agg,cells_tup,cells_ref,cells_list,cells_vmap,cells_zp,cells_junk,nojunk,isJ_undef,isJ_bool,isJ_int,isJ_str,isJ_nilp,isJ_ptr,isJ_nils,isJ_slice,isJ_nilm,isJ_map,isJ_nilf,isJ_func,isJ_nili,isJ_iface,isJ_agg,isJ_tup,isJ_ref,isJ_list,isJ_vmap,isJ_zp,isJ_junk,VOp.opds,VOp.jops,pureV,arith,intBin,unary,minmaxL,eqVal,eqAt,eqv,eqNil,isAgg_undef,isAgg_bool,isAgg_int,isAgg_str,isAgg_nilp,isAgg_ptr,isAgg_nils,isAgg_slice,isAgg_nilm,isAgg_map,isAgg_nilf,isAgg_func,isAgg_nili,isAgg_iface,isAgg_agg,isAgg_tup,isAgg_ref,isAgg_list,isAgg_vmap,isAgg_zp,isAgg_junk,fill,nilOk,append,appendN_nils,appendN_list,appendN_slice,lenVal,firstCells,sliceVal_nils,sliceVal_slice,sliceVal_list,bounds,bnd,intOf?,repeatL,Option.isSome,Option.map_some,Option.getD_some,Option.getD_none,outer,findKey,hp_next,hp_floor,hp_hid,hp_new,hp_put,hp_load0,hp_load,hp_get0,hp_get,hp_store,hp_part,hp_unpart,hdn,hiddenOf,loadB_c,loadB_bo,storeB_c,lb_eq,lb_ne,splice,one_undef,one_bool,one_int,one_str,one_nilp,one_ptr,one_nils,one_slice,one_nilm,one_map,one_nilf,one_func,one_nili,one_iface,one_agg,one_tup,one_ref,one_list,one_vmap,one_zp,one_junk,sees,ev_mk,ev_c,lk_eq,lk_ne,setDst_mk,setDst_no,argsL,Nat.reduceEqDiff,Nat.reduceLT,Nat.reduceLeDiff,Nat.reduceAdd,Nat.reduceMul,Nat.reduceSub,Nat.reduceDiv,Nat.reduceMod,Nat.reduceBEq,Nat.reduceBNe,Nat.zero_add,Nat.add_zero,Nat.mul_one,Nat.zero_le,Nat.le_refl,Int.reduceLT,Int.reduceLE,Int.reduceToNat,Int.reduceBEq,Int.reduceNeg,Int.reduceAdd,Int.toNat_natCast,Int.cast_ofNat_Int,if_true,if_false,reduceIte,reduceCtorEq,Bool.false_eq_true,Bool.true_beq,Bool.false_beq,Bool.not_true,Bool.not_false,Bool.and_true,Bool.true_and,Bool.and_false,Bool.false_and,Bool.and_self,Bool.or_true,Bool.true_or,Bool.or_false,Bool.false_or,beq_self_eq_true,true_and,and_true,and_self,true_or,or_true,false_or,or_false,decide_true,decide_false,Option.toList_none,Option.toList_some,Nat.sub_zero,List.length_cons,List.length_nil,List.all_cons,List.all_nil,List.nil_append,List.cons_append,List.append_nil,List.take_zero,List.take_succ_cons,List.drop_zero,List.drop_succ_cons,List.take_nil,List.drop_nil,List.getElem?_cons_zero,List.getElem?_cons_succ,List.map_cons,List.map_nil,ne_eq,not_true_eq_false,not_false_eq_true,T.v_cells,T.v_isJ,T.v_isLi,T.v_isSl,T.v_one,T.v_res,fz_one,fz_res,T.v_node,T.v_nil,T.sz_nil,T.sz_node,T.dp_nil,T.dp_node,cC,k_obj,c_obj,toByte,Int.toNat_natCast,Bool.decide_eq_true,lv_nilS,↓step_lenOf,↓step_iaddr,↓step_faddr,↓step_load,lenS_nils,lenS_slice,lenS_list,lenS_lv,lenS_bv,addrS_slice,addrS_list,addrS_lv,addrS_bv,faddrS_ptr,faddrS_ref,loadS_ptr,loadS_ref,loadS_zp,loadS_er,ldS_agg,ldS_one,one1_one,lenVal_lv,lenVal_bv,first_lv,slice_lv,slv_some,appendN_bv,bapp_fl,bapp_c,bfit_fl,bfit_c,isB_bb,isB_c,snoc_ne,lb_gone,lv_res,er_isJ,er_isAgg,er_isLi,er_isSl,er_cells,er_one,er_res,er_lo,er_nilOk,bv_res,drops_bu,drops_bu0,drops_nil,Nat.zero_lt_one,gt_iff_lt,ge_iff_le,Int.lt_irrefl,Nat.lt_irrefl,Option.isSome_none,Option.isSome_some, *]
  all_goals exact zr.out) (zt:TR R:=by first|exact TR.tt|exact zTR):P:=zh ⟨zr⟩
theorem zVC {P R:Prop} (zr:R) (zh:Box R→P:=by
  intro zr
  simp (decide:=true) only [lof,kslo,seesB,blo_nil,blo_cells,blo_rnd,blo_none,los_nil,los_cons,lo_undef,lo_bool,lo_int,lo_str,lo_nilp,lo_ptr,lo_nils,lo_slice,lo_nilm,lo_map,lo_nilf,lo_nili,lo_ref,lo_list,lo_vmap,lo_zp,lo_junk,fz_lo,T.v_lo,Bool.and_eq_true,isCall,toByte,wanted,step,cells_undef,cells_bool,cells_int,cells_str,cells_nilp,cells_ptr,cells_nils,cells_slice,cells_nilm,cells_map,cells_nilf,cells_func,cells_nili,cells_iface,cells_agg,cells_tup,cells_ref,cells_list,cells_vmap,cells_zp,cells_junk,nojunk,isJ_undef,isJ_bool,isJ_int,isJ_str,isJ_nilp,isJ_ptr,isJ_nils,isJ_slice,isJ_nilm,isJ_map,isJ_nilf,isJ_func,isJ_nili,isJ_iface,isJ_agg,isJ_tup,isJ_ref,isJ_list,isJ_vmap,isJ_zp,isJ_junk,VOp.opds,VOp.jops,pureV,arith,intBin,unary,minmaxL,eqVal,eqAt,eqv,eqNil,isAgg_undef,isAgg_bool,isAgg_int,isAgg_str,isAgg_nilp,isAgg_ptr,isAgg_nils,isAgg_slice,isAgg_nilm,isAgg_map,isAgg_nilf,isAgg_func,isAgg_nili,isAgg_iface,isAgg_agg,isAgg_tup,isAgg_ref,isAgg_list,isAgg_vmap,isAgg_zp,isAgg_junk,fill,evs,nilOk,append,appendN_nils,appendN_list,appendN_slice,lenVal,firstCells,sliceVal_nils,sliceVal_slice,sliceVal_list,bounds,bnd,intOf?,repeatL,Option.isSome,Option.map_some,Option.getD_some,Option.getD_none,outer,findKey,hp_next,hp_floor,hp_hid,hp_new,hp_put,hp_load0,hp_load,hp_get0,hp_get,hp_store,hp_part,hp_unpart,hdn,hiddenOf,loadB_c,loadB_bo,storeB_c,lb_eq,lb_ne,splice,one_undef,one_bool,one_int,one_str,one_nilp,one_ptr,one_nils,one_slice,one_nilm,one_map,one_nilf,one_func,one_nili,one_iface,one_agg,one_tup,one_ref,one_list,one_vmap,one_zp,one_junk,sees,mk_getD,ev_mk,ev_c,lk_eq,lk_ne,setDst_mk,setDst_no,argsL,Nat.reduceEqDiff,Nat.reduceLT,Nat.reduceLeDiff,Nat.reduceAdd,Nat.reduceMul,Nat.reduceSub,Nat.reduceDiv,Nat.reduceMod,Nat.reduceBEq,Nat.reduceBNe,Nat.zero_add,Nat.add_zero,Nat.mul_one,Nat.zero_le,Nat.le_refl,Int.reduceLT,Int.reduceLE,Int.reduceToNat,Int.reduceBEq,Int.reduceNeg,Int.reduceAdd,Int.toNat_natCast,Int.cast_ofNat_Int,if_true,if_false,reduceIte,reduceCtorEq,Bool.false_eq_true,Bool.true_beq,Bool.false_beq,Bool.not_true,Bool.not_false,Bool.and_true,Bool.true_and,Bool.and_false,Bool.false_and,Bool.and_self,Bool.or_true,Bool.true_or,Bool.or_false,Bool.false_or,beq_self_eq_true,true_and,and_true,and_self,true_or,or_true,false_or,or_false,decide_true,decide_false,Option.toList_none,Option.toList_some,Nat.sub_zero,List.length_cons,List.length_nil,List.all_cons,List.all_nil,List.nil_append,List.cons_append,List.append_nil,List.take_zero,List.take_succ_cons,List.drop_zero,List.drop_succ_cons,List.take_nil,List.drop_nil,List.getElem?_cons_zero,List.getElem?_cons_succ,List.map_cons,List.map_nil,ne_eq,not_true_eq_false,not_false_eq_true,T.v_cells,T.v_isJ,T.v_isLi,T.v_isSl,T.v_one,T.v_res,fz_one,fz_res,T.v_node,T.v_nil,T.sz_nil,T.sz_node,T.dp_nil,T.dp_node,cC,k_obj,c_obj,toByte,Int.toNat_natCast,Bool.decide_eq_true,lv_nilS,↓step_lenOf,↓step_iaddr,↓step_faddr,↓step_load,lenS_nils,lenS_slice,lenS_list,lenS_lv,lenS_bv,addrS_slice,addrS_list,addrS_lv,addrS_bv,faddrS_ptr,faddrS_ref,loadS_ptr,loadS_ref,loadS_zp,loadS_er,ldS_agg,ldS_one,one1_one,lenVal_lv,lenVal_bv,first_lv,slice_lv,slv_some,appendN_bv,bapp_fl,bapp_c,bfit_fl,bfit_c,isB_bb,isB_c,snoc_ne,lb_gone,lv_res,er_isJ,er_isAgg,er_isLi,er_isSl,er_cells,er_one,er_res,er_lo,er_nilOk,bv_res,drops_bu,drops_bu0,drops_nil,Nat.zero_lt_one,gt_iff_lt,ge_iff_le,Int.lt_irrefl,Nat.lt_irrefl,Option.isSome_none,Option.isSome_some, *]
  all_goals exact zr.out) (zt:TR R:=by first|exact TR.tt|exact zTR):P:=zh ⟨zr⟩
theorem zRC {P R:Prop} (zr:R) (zh:Box R→P:=by
  intro zr
  simp (decide:=true) only [seesR_nil,seesR_cons,seesN_nil,seesN_cons,ren_undef,ren_bool,ren_int,ren_str,ren_nilp,ren_nils,ren_nilm,ren_nilf,ren_nili,ren_ref,ren_list,ren_vmap,ren_zp,ren_junk,ren_ptr,renP_some,renS_some,renM_some,renB_some,rens_nil,rens_cons,rens_append,bren_cells,bren_rnd,bren_some,bren_none,fl_rens,lv_ren,er_ren,bv_ren,rf,org,idx,ksren_nil,fl_append,fl_one,List.length_append,bb_succ,bb_zero,fl_nil,List.getD_eq_getElem?_getD,lb_eq,lb_ne,lb_gone,lb_nil,bapp_fl,Option.getD_some,Option.getD_none,sees,mk_getD,ev_mk,ev_c,lk_eq,lk_ne,setDst_mk,setDst_no,argsL,Nat.reduceEqDiff,Nat.reduceLT,Nat.reduceLeDiff,Nat.reduceAdd,Nat.reduceMul,Nat.reduceSub,Nat.reduceDiv,Nat.reduceMod,Nat.reduceBEq,Nat.reduceBNe,Nat.zero_add,Nat.add_zero,Nat.mul_one,Nat.zero_le,Nat.le_refl,Int.reduceLT,Int.reduceLE,Int.reduceToNat,Int.reduceBEq,Int.reduceNeg,Int.reduceAdd,Int.toNat_natCast,Int.cast_ofNat_Int,if_true,if_false,reduceIte,reduceCtorEq,Bool.false_eq_true,Bool.true_beq,Bool.false_beq,Bool.not_true,Bool.not_false,Bool.and_true,Bool.true_and,Bool.and_false,Bool.false_and,Bool.and_self,Bool.or_true,Bool.true_or,Bool.or_false,Bool.false_or,beq_self_eq_true,true_and,and_true,and_self,true_or,or_true,false_or,or_false,decide_true,decide_false,Option.toList_none,Option.toList_some,Nat.sub_zero,List.length_cons,List.length_nil,List.all_cons,List.all_nil,List.nil_append,List.cons_append,List.append_nil,List.take_zero,List.take_succ_cons,List.drop_zero,List.drop_succ_cons,List.take_nil,List.drop_nil,List.getElem?_cons_zero,List.getElem?_cons_succ,List.map_cons,List.map_nil,ne_eq,not_true_eq_false,not_false_eq_true,T.v_cells,T.v_isJ,T.v_isLi,T.v_isSl,T.v_one,T.v_res,fz_one,fz_res,T.v_node,T.v_nil,T.sz_nil,T.sz_node,T.dp_nil,T.dp_node,cC,k_obj,c_obj,toByte,Int.toNat_natCast,Bool.decide_eq_true,lv_nilS,↓step_lenOf,↓step_iaddr,↓step_faddr,↓step_load,lenS_nils,lenS_slice,lenS_list,lenS_lv,lenS_bv,addrS_slice,addrS_list,addrS_lv,addrS_bv,faddrS_ptr,faddrS_ref,loadS_ptr,loadS_ref,loadS_zp,loadS_er,ldS_agg,ldS_one,one1_one,lenVal_lv,lenVal_bv,first_lv,slice_lv,slv_some,appendN_bv,bapp_fl,bapp_c,bfit_fl,bfit_c,isB_bb,isB_c,snoc_ne,lb_gone,lv_res,er_isJ,er_isAgg,er_isLi,er_isSl,er_cells,er_one,er_res,er_lo,er_nilOk,bv_res,drops_bu,drops_bu0,drops_nil,Nat.zero_lt_one,gt_iff_lt,ge_iff_le,Int.lt_irrefl,Nat.lt_irrefl,Option.isSome_none,Option.isSome_some, *]
  all_goals exact zr.out) (zt:TR R:=by first|exact TR.tt|exact zTR):P:=zh ⟨zr⟩
theorem gaC {P R:Prop} (zr:R) (zh:Box R→P:=by
    intro zr
    (repeat' (first
      |(refine GE.seqR msP ?_ ?_;rotate_left;(focus exact rfl);refine zUC ?_)
      |(refine GE.reg msP ?_ ?_;rotate_left;(focus exact rfl);refine zUC ?_)
      |(refine GE.seqD msP ?_ ?_;rotate_left;(focus exact rfl);refine zUC ?_)
      |(refine GE.drw msP ?_ ?_;rotate_left;(focus exact rfl);refine zUC ?_)
      |refine GE.assoc ?_
      |refine GE.seqSkip ?_
      |(refine GE.seqRet ?_)
      |(refine GE.seqExit ?_)
      |refine GE.seqBlock ?_
      |refine GE.block ?_
      |refine GE.skip ?_
      |refine GE.exit ?_
      |refine GE.ret ?_
      |(refine GE.seq (GE.condT ?_ ?_ rfl);(focus (refine zWC ?_;exact True.intro)))
      |(refine GE.condT ?_ ?_ rfl;(focus (refine zWC ?_;exact True.intro)))
      |(refine GE.seq (GE.condF ?_ ?_ rfl);(focus (refine zWC ?_;exact True.intro)))
      |(refine GE.condF ?_ ?_ rfl;(focus (refine zWC ?_;exact True.intro)))
      |(refine GO.notc ?_ ?_;(focus (refine zUC ?_;exact True.intro));refine zUC ?_)
      |(refine GD.notc rfl rfl ?_ ?_;(focus (refine zUC ?_;exact True.intro));refine zUC ?_)
      |(unfold outG;refine zUC ?_)
      |(refine GO.ofn msP ?_ ?_ ?_;(focus exact rfl);(focus exact rfl);refine zUC ?_)
      |(refine GD.ofn msP rfl ?_ rfl ?_;(focus exact rfl);refine zUC ?_)
      |(simp only [mid_normal,mid_exit,mid_ret,forQ_normal,forQ_exit,forQ_ret,if_true,if_false,round_exit,round_ret,gseq_normal,gseq_exit,gseq_ret,gblock_normal,gblock_ret,gblock_exit,Nat.reduceEqDiff])))
    all_goals exact zr.out) (zt:TR R:=by first|exact TR.tt|exact zTR):P:=zh ⟨zr⟩
theorem gcC {C P R:Prop} (zk:C) (zr:R) (zh:Box C→Box R→P:=by
    intro zk zr
    (repeat' (first
      |(refine GE.seqR msP ?_ ?_;rotate_left;(focus exact rfl);refine zUC ?_)
      |(refine GE.reg msP ?_ ?_;rotate_left;(focus exact rfl);refine zUC ?_)
      |(refine GE.seqD msP ?_ ?_;rotate_left;(focus exact rfl);refine zUC ?_)
      |(refine GE.drw msP ?_ ?_;rotate_left;(focus exact rfl);refine zUC ?_)
      |refine GE.assoc ?_
      |refine GE.seqSkip ?_
      |(refine GE.seqRet ?_)
      |(refine GE.seqExit ?_)
      |refine GE.seqBlock ?_
      |refine GE.block ?_
      |refine GE.skip ?_
      |refine GE.exit ?_
      |refine GE.ret ?_
      |(refine GE.seq (GE.condT ?_ ?_ rfl);(focus (refine zWC ?_;exact True.intro)))
      |(refine GE.condT ?_ ?_ rfl;(focus (refine zWC ?_;exact True.intro)))
      |(refine GE.seq (GE.condF ?_ ?_ rfl);(focus (refine zWC ?_;exact True.intro)))
      |(refine GE.condF ?_ ?_ rfl;(focus (refine zWC ?_;exact True.intro)))
      |(refine GO.pcx ?_ ?_ ?_;rotate_left 2;(focus exact rfl);(focus (refine zUC ?_;exact True.intro));refine zUC ?_;apply zEx;(first|(apply zk.out<;>(first|assumption|omega|(refine ⟨?_,?_⟩<;>(first|omega|(simp only [T.join,T.sz_node,T.dp_node];omega)))))|(apply zk.out.1<;>(first|assumption|omega|(refine ⟨?_,?_⟩<;>(first|omega|(simp only [T.join,T.sz_node,T.dp_node];omega)))))|(apply zk.out.2<;>(first|assumption|omega|(refine ⟨?_,?_⟩<;>(first|omega|(simp only [T.join,T.sz_node,T.dp_node];omega)))))|(apply zk.out.2.1<;>(first|assumption|omega|(refine ⟨?_,?_⟩<;>(first|omega|(simp only [T.join,T.sz_node,T.dp_node];omega)))))|(apply zk.out.2.2<;>(first|assumption|omega|(refine ⟨?_,?_⟩<;>(first|omega|(simp only [T.join,T.sz_node,T.dp_node];omega)))))|(apply zk.out.2.2.1<;>(first|assumption|omega|(refine ⟨?_,?_⟩<;>(first|omega|(simp only [T.join,T.sz_node,T.dp_node];omega)))))|(apply zk.out.2.2.2<;>(first|assumption|omega|(refine ⟨?_,?_⟩<;>(first|omega|(simp only [T.join,T.sz_node,T.dp_node];omega)))))|(apply zk.out.2.2.2.1<;>(first|assumption|omega|(refine ⟨?_,?_⟩<;>(first|omega|(simp only [T.join,T.sz_node,T.dp_node];omega)))))|(apply zk.out.2.2.2.2<;>(first|assumption|omega|(refine ⟨?_,?_⟩<;>(first|omega|(simp only [T.join,T.sz_node,T.dp_node];omega)))))|(apply zk.out.2.2.2.2.1<;>(first|assumption|omega|(refine ⟨?_,?_⟩<;>(first|omega|(simp only [T.join,T.sz_node,T.dp_node];omega)))))|(apply zk.out.2.2.2.2.2<;>(first|assumption|omega|(refine ⟨?_,?_⟩<;>(first|omega|(simp only [T.join,T.sz_node,T.dp_node];omega)))))))
      |(refine GO.pcv ?_ ?_ ?_ ?_;rotate_left 2;(focus exact rfl);(focus exact rfl);(focus (refine zUC ?_;exact True.intro));refine zUC ?_;apply zEx;(first|(apply zk.out<;>(first|assumption|omega|(refine ⟨?_,?_⟩<;>(first|omega|(simp only [T.join,T.sz_node,T.dp_node];omega)))))|(apply zk.out.1<;>(first|assumption|omega|(refine ⟨?_,?_⟩<;>(first|omega|(simp only [T.join,T.sz_node,T.dp_node];omega)))))|(apply zk.out.2<;>(first|assumption|omega|(refine ⟨?_,?_⟩<;>(first|omega|(simp only [T.join,T.sz_node,T.dp_node];omega)))))|(apply zk.out.2.1<;>(first|assumption|omega|(refine ⟨?_,?_⟩<;>(first|omega|(simp only [T.join,T.sz_node,T.dp_node];omega)))))|(apply zk.out.2.2<;>(first|assumption|omega|(refine ⟨?_,?_⟩<;>(first|omega|(simp only [T.join,T.sz_node,T.dp_node];omega)))))|(apply zk.out.2.2.1<;>(first|assumption|omega|(refine ⟨?_,?_⟩<;>(first|omega|(simp only [T.join,T.sz_node,T.dp_node];omega)))))|(apply zk.out.2.2.2<;>(first|assumption|omega|(refine ⟨?_,?_⟩<;>(first|omega|(simp only [T.join,T.sz_node,T.dp_node];omega)))))|(apply zk.out.2.2.2.1<;>(first|assumption|omega|(refine ⟨?_,?_⟩<;>(first|omega|(simp only [T.join,T.sz_node,T.dp_node];omega)))))|(apply zk.out.2.2.2.2<;>(first|assumption|omega|(refine ⟨?_,?_⟩<;>(first|omega|(simp only [T.join,T.sz_node,T.dp_node];omega)))))|(apply zk.out.2.2.2.2.1<;>(first|assumption|omega|(refine ⟨?_,?_⟩<;>(first|omega|(simp only [T.join,T.sz_node,T.dp_node];omega)))))|(apply zk.out.2.2.2.2.2<;>(first|assumption|omega|(refine ⟨?_,?_⟩<;>(first|omega|(simp only [T.join,T.sz_node,T.dp_node];omega)))))))
      |(refine GD.pcx rfl rfl ?_ ?_;(focus (refine zUC ?_;exact True.intro));refine zUC ?_;apply zEx;(first|(apply zk.out<;>(first|assumption|omega|(refine ⟨?_,?_⟩<;>(first|omega|(simp only [T.join,T.sz_node,T.dp_node];omega)))))|(apply zk.out.1<;>(first|assumption|omega|(refine ⟨?_,?_⟩<;>(first|omega|(simp only [T.join,T.sz_node,T.dp_node];omega)))))|(apply zk.out.2<;>(first|assumption|omega|(refine ⟨?_,?_⟩<;>(first|omega|(simp only [T.join,T.sz_node,T.dp_node];omega)))))|(apply zk.out.2.1<;>(first|assumption|omega|(refine ⟨?_,?_⟩<;>(first|omega|(simp only [T.join,T.sz_node,T.dp_node];omega)))))|(apply zk.out.2.2<;>(first|assumption|omega|(refine ⟨?_,?_⟩<;>(first|omega|(simp only [T.join,T.sz_node,T.dp_node];omega)))))|(apply zk.out.2.2.1<;>(first|assumption|omega|(refine ⟨?_,?_⟩<;>(first|omega|(simp only [T.join,T.sz_node,T.dp_node];omega)))))|(apply zk.out.2.2.2<;>(first|assumption|omega|(refine ⟨?_,?_⟩<;>(first|omega|(simp only [T.join,T.sz_node,T.dp_node];omega)))))|(apply zk.out.2.2.2.1<;>(first|assumption|omega|(refine ⟨?_,?_⟩<;>(first|omega|(simp only [T.join,T.sz_node,T.dp_node];omega)))))|(apply zk.out.2.2.2.2<;>(first|assumption|omega|(refine ⟨?_,?_⟩<;>(first|omega|(simp only [T.join,T.sz_node,T.dp_node];omega)))))|(apply zk.out.2.2.2.2.1<;>(first|assumption|omega|(refine ⟨?_,?_⟩<;>(first|omega|(simp only [T.join,T.sz_node,T.dp_node];omega)))))|(apply zk.out.2.2.2.2.2<;>(first|assumption|omega|(refine ⟨?_,?_⟩<;>(first|omega|(simp only [T.join,T.sz_node,T.dp_node];omega)))))))
      |(refine GD.pcv rfl rfl ?_ ?_;(focus (refine zUC ?_;exact True.intro));refine zUC ?_;apply zEx;(first|(apply zk.out<;>(first|assumption|omega|(refine ⟨?_,?_⟩<;>(first|omega|(simp only [T.join,T.sz_node,T.dp_node];omega)))))|(apply zk.out.1<;>(first|assumption|omega|(refine ⟨?_,?_⟩<;>(first|omega|(simp only [T.join,T.sz_node,T.dp_node];omega)))))|(apply zk.out.2<;>(first|assumption|omega|(refine ⟨?_,?_⟩<;>(first|omega|(simp only [T.join,T.sz_node,T.dp_node];omega)))))|(apply zk.out.2.1<;>(first|assumption|omega|(refine ⟨?_,?_⟩<;>(first|omega|(simp only [T.join,T.sz_node,T.dp_node];omega)))))|(apply zk.out.2.2<;>(first|assumption|omega|(refine ⟨?_,?_⟩<;>(first|omega|(simp only [T.join,T.sz_node,T.dp_node];omega)))))|(apply zk.out.2.2.1<;>(first|assumption|omega|(refine ⟨?_,?_⟩<;>(first|omega|(simp only [T.join,T.sz_node,T.dp_node];omega)))))|(apply zk.out.2.2.2<;>(first|assumption|omega|(refine ⟨?_,?_⟩<;>(first|omega|(simp only [T.join,T.sz_node,T.dp_node];omega)))))|(apply zk.out.2.2.2.1<;>(first|assumption|omega|(refine ⟨?_,?_⟩<;>(first|omega|(simp only [T.join,T.sz_node,T.dp_node];omega)))))|(apply zk.out.2.2.2.2<;>(first|assumption|omega|(refine ⟨?_,?_⟩<;>(first|omega|(simp only [T.join,T.sz_node,T.dp_node];omega)))))|(apply zk.out.2.2.2.2.1<;>(first|assumption|omega|(refine ⟨?_,?_⟩<;>(first|omega|(simp only [T.join,T.sz_node,T.dp_node];omega)))))|(apply zk.out.2.2.2.2.2<;>(first|assumption|omega|(refine ⟨?_,?_⟩<;>(first|omega|(simp only [T.join,T.sz_node,T.dp_node];omega)))))))
      |(refine GO.notc ?_ ?_;(focus (refine zUC ?_;exact True.intro));refine zUC ?_)
      |(refine GD.notc rfl rfl ?_ ?_;(focus (refine zUC ?_;exact True.intro));refine zUC ?_)
      |(unfold outG;refine zUC ?_)
      |(refine GO.ofn msP ?_ ?_ ?_;(focus exact rfl);(focus exact rfl);refine zUC ?_)
      |(refine GD.ofn msP rfl ?_ rfl ?_;(focus exact rfl);refine zUC ?_)
      |(simp only [mid_normal,mid_exit,mid_ret,forQ_normal,forQ_exit,forQ_ret,if_true,if_false,round_exit,round_ret,gseq_normal,gseq_exit,gseq_ret,gblock_normal,gblock_ret,gblock_exit,Nat.reduceEqDiff])))
    all_goals exact zr.out) (zt:TR R:=by first|exact TR.tt|exact zTR):P:=zh ⟨zk⟩ ⟨zr⟩
theorem gfC {P R:Prop} (zr:R) (zh:Box R→P:=by
  intro zr
  refine ⟨fun _ h=>(by cases h),_,(by (refine zUC ?_;first|exact True.intro|exact rfl)),?_⟩;refine zOC ?_
  all_goals exact zr.out) (zt:TR R:=by first|exact TR.tt|exact zTR):P:=zh ⟨zr⟩
theorem gFC {P R:Prop} (zr:R) (zh:Box R→P:=by
  intro zr
  refine ⟨fun _ h=>(by cases h),_,(by (refine zUC ?_;first|exact True.intro|exact rfl)),?_⟩;unfold outF;refine zOC ?_
  all_goals exact zr.out) (zt:TR R:=by first|exact TR.tt|exact zTR):P:=zh ⟨zr⟩
theorem gwC {P R:Prop} (zr:R) (zh:Box R→P:=by
  intro zr
  refine Weak.mk ?_;refine zWC ?_
  all_goals exact zr.out) (zt:TR R:=by first|exact TR.tt|exact zTR):P:=zh ⟨zr⟩
theorem gvC {P R:Prop} (zr:R) (zh:Box R→P:=by
  intro zr
  (refine Weak.cut (Nat.le_of_ble_eq_true rfl) ?_ ?_ ?_ ?_ (seesB_all ?_)<;>(refine zVC ?_;try exact True.intro))
  all_goals exact zr.out) (zt:TR R:=by first|exact TR.tt|exact zTR):P:=zh ⟨zr⟩
theorem wkC {P R:Prop} (zr:R) (zh:Box R→P:=by
  intro zr
  simp (decide:=true) only [bv_zero,List.length_nil,List.take_zero,List.drop_zero,List.flatMap_nil,Int.natCast_zero,sees,mk_getD,ev_mk,ev_c,lk_eq,lk_ne,setDst_mk,setDst_no,argsL,Nat.reduceEqDiff,Nat.reduceLT,Nat.reduceLeDiff,Nat.reduceAdd,Nat.reduceMul,Nat.reduceSub,Nat.reduceDiv,Nat.reduceMod,Nat.reduceBEq,Nat.reduceBNe,Nat.zero_add,Nat.add_zero,Nat.mul_one,Nat.zero_le,Nat.le_refl,Int.reduceLT,Int.reduceLE,Int.reduceToNat,Int.reduceBEq,Int.reduceNeg,Int.reduceAdd,Int.toNat_natCast,Int.cast_ofNat_Int,if_true,if_false,reduceIte,reduceCtorEq,Bool.false_eq_true,Bool.true_beq,Bool.false_beq,Bool.not_true,Bool.not_false,Bool.and_true,Bool.true_and,Bool.and_false,Bool.false_and,Bool.and_self,Bool.or_true,Bool.true_or,Bool.or_false,Bool.false_or,beq_self_eq_true,true_and,and_true,and_self,true_or,or_true,false_or,or_false,decide_true,decide_false,Option.toList_none,Option.toList_some,Nat.sub_zero,List.length_cons,List.length_nil,List.all_cons,List.all_nil,List.nil_append,List.cons_append,List.append_nil,List.take_zero,List.take_succ_cons,List.drop_zero,List.drop_succ_cons,List.take_nil,List.drop_nil,List.getElem?_cons_zero,List.getElem?_cons_succ,List.map_cons,List.map_nil,ne_eq,not_true_eq_false,not_false_eq_true,T.v_cells,T.v_isJ,T.v_isLi,T.v_isSl,T.v_one,T.v_res,fz_one,fz_res,T.v_node,T.v_nil,T.sz_nil,T.sz_node,T.dp_nil,T.dp_node,cC,k_obj,c_obj,toByte,Int.toNat_natCast,Bool.decide_eq_true,lv_nilS,↓step_lenOf,↓step_iaddr,↓step_faddr,↓step_load,lenS_nils,lenS_slice,lenS_list,lenS_lv,lenS_bv,addrS_slice,addrS_list,addrS_lv,addrS_bv,faddrS_ptr,faddrS_ref,loadS_ptr,loadS_ref,loadS_zp,loadS_er,ldS_agg,ldS_one,one1_one,lenVal_lv,lenVal_bv,first_lv,slice_lv,slv_some,appendN_bv,bapp_fl,bapp_c,bfit_fl,bfit_c,isB_bb,isB_c,snoc_ne,lb_gone,lv_res,er_isJ,er_isAgg,er_isLi,er_isSl,er_cells,er_one,er_res,er_lo,er_nilOk,bv_res,drops_bu,drops_bu0,drops_nil,Nat.zero_lt_one,gt_iff_lt,ge_iff_le,Int.lt_irrefl,Nat.lt_irrefl,Option.isSome_none,Option.isSome_some, *]
  all_goals exact zr.out) (zt:TR R:=by first|exact TR.tt|exact zTR):P:=zh ⟨zr⟩
theorem GE.rWC {E:Env} {ks:List (List Val)} {Q:EQ} {α:Type} {n:Nat} (S:α→List (Nat×Val)) (H:α→Heap) (inv:α→Prop) (μ:α→Nat) {a:VC} {l:List (Nat×Val)} {p:Heap} (s:α) (hi:inv s) (hs: ∀ s,inv s→GE E a (V.mk n (S s)) ks (H s) (roundQ n S H ks inv μ (μ s) Q)) (hw:Weak (V.mk n l) ks p (V.mk n (S s)) ks (H s):=by
  first|(refine Weak.mk' ?_ ?_;(focus (refine wkC ?_;exact True.intro));(focus (refine wkC ?_;exact True.intro)))|(refine Weak.mk' ?_ ?_;(focus (first|(refine wkC ?_;first|exact True.intro|exact rfl)|exact rfl));(focus (first|(refine wkC ?_;first|exact True.intro|exact rfl)|exact rfl)))|(refine Weak.grow1 ?_;(refine wkC ?_;exact True.intro))|(refine Weak.grow1 ?_;(refine wkC ?_;first|exact True.intro|exact rfl))):GE E (.loop a) (V.mk n l) ks p Q:=GE.roundsW S H inv μ s hw hi hs
theorem Weak.rnC {M n nx:Nat} (js:List Nat) {l l2:List (Nat×Val)} {ks ks2:List (List Val)} {b b2:List (Nat×Option Blk)} {N:Nat} (hN:N=M+js.length:=by exact rfl) (hM:Nat.ble M nx=true:=by exact rfl) (hj:js.all (fun j=>Nat.ble M j&&Nat.ble (j+1) nx)=true:=by exact rfl) (hn:js.Nodup:=by decide) (hk:ksren (rf M js) ks=ks2:=by first|(refine zRC ?_;first|exact True.intro|exact rfl)|exact rfl) (hs:seesR (rf M js) l l2:=by first|(refine zRC ?_;first|exact True.intro|exact rfl)|exact rfl) (hb:seesN M js b b2:=by first|(refine zRC ?_;first|exact True.intro|exact rfl)|exact rfl):Weak (V.mk n l) ks (V.hp nx 0 [] b) (V.mk n l2) ks2 (V.hp N 0 [] b2):=Weak.ren' js hN hM hj hn hk hs hb
end Go.V
end
