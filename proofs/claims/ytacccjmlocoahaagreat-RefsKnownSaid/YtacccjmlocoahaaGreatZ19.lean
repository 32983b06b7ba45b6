/-
  Parts of the proof, from: The law's code answers true.
-/
import Derived.Test.YtacccjmlocoahaaGreatRows
import Derived.WalkKit
import Derived.ProofKit
import Derived.OpenShut
import Derived.JoinedCond
import Derived.Test.YtacccjmlocoahaaGreatZ18

set_option linter.unusedVariables false
set_option linter.unusedSimpArgs false
set_option linter.unusedSectionVars false
section
set_option maxRecDepth 100000
namespace Go.V
open Go.Proofs
set_option maxHeartbeats 0 in
theorem law_true:lawK f3=.ok false [.bool true]:=by kernel_rfl
end Go.V
end
section
namespace Go.V
open Go
theorem mapM_imp {α β:Type} {f g:α→Option β}: ∀ {l:List α} {r:List β},l.mapM f=some r→(∀ i∈l,∀ y∈r,f i=some y→g i=some y)→l.mapM g=some r
 |[],r,h,_=>by simpa using h
 |a::l,r,h,k=>by
  rw [List.mapM_cons] at h ⊢
  cases ha:f a with
  |none=>rw [ha] at h;cases h
  |some y=>
   rw [ha] at h
   cases hl:l.mapM f with
   |none=>simp [hl] at h
   |some s=>
    simp only [hl,Option.pure_def,Option.bind_eq_bind,Option.bind_some,Option.some.injEq] at h
    subst h
    rw [k a (by simp) y (by simp) ha]
    rw [mapM_imp hl fun i hi z hz e=>k i (by simp [hi]) z (by simp [hz]) e]
    rfl
def Same (W W':World):Prop:= ∀ c,c<W.heap.size→W'.heap[c]? =W.heap[c]?
theorem Same.cell {W W':World} (h:Same W W') {a:Addr} {v:Value} (e:W.cell? a=some v):W'.cell? a=some v:=by
 unfold World.cell? at e ⊢
 split at e
 ·rename_i hb
  have:a.block<W.heap.size:=(Array.getElem?_eq_some_iff.1 hb).1
  rw [h _ this,hb]
  exact e
 ·cases e
theorem Same.cells {W W':World} (h:Same W W') {base:Nat} {a:Addr} {n:Nat} {l:List Value} (e:W.cells? base a n=some l):W'.cells? base a n=some l:=by
 unfold World.cells? at e ⊢
 split at e
 ·rename_i hb
  rw [if_pos hb]
  exact mapM_imp e fun i _ y _ k=>h.cell k
 ·cases e
theorem bind_imp {α β:Type} {x:Option α} {f:α→Option β} {y:β} (h:x.bind f=some y): ∃ a,x=some a∧f a=some y:=by
 cases x with
 |none=>cases h
 |some a=>exact ⟨a,rfl,h⟩
variable {H:Type} {enc:TypeId×Value→H} {P:Program}
theorem row_mem {a:Addr} {n:Nat} (hn:0<n):MemPlace.cell a.block (a.off+0)∈MemPlace.row a n:=by
 unfold MemPlace.row
 exact List.mem_map.2 ⟨0,by simpa using hn,rfl⟩
def okT (P:Program):Nat→TypeId→Bool
 |0,_=>false
 |d+1,t=>match P.underlying t with
  |some (.int _)|some .bool |some .string =>true
  |some (.struct fs)=>fs.toList.all fun f=>okT P d f.type
  |some (.array _ e)=>okT P d e
  |some (.slice e)=>P.cellsOf e != 0&&okT P d e
  |_=>false
theorem trod_same {W W':World} (h:Same W W') {base:Nat} {held:Bool} {sp:Nat→Bool}: ∀ (fuel d:Nat) (t:TypeId) (cs:List Value) (x:DataW H×List MemPlace),okT P d t=true→
  DataW.trod enc P W base (fun _=>true) held fuel t cs=some x→(∀ p∈x.2,sp p.block=true)→DataW.trod enc P W' base sp held fuel t cs=some x
 |0,_,_,_,_,_,e,_=>by simp [DataW.trod] at e
 |_+1,0,_,_,_,hk,_,_=>by simp [okT] at hk
 |fuel+1,d+1,t,cs,x,hk,e,hp=>by
  have ih:=trod_same h (base:=base) (held:=held) (sp:=sp) fuel d
  simp only [okT] at hk
  unfold DataW.trod at e ⊢
  generalize hu:P.underlying t=u at e hk ⊢
  split at e<;>(try (first|exact e|(simp only at e;cases e;done)))
  ·cases hk
  ·
   rename_i e0 a len cap
   simp only [Bool.and_eq_true,bne_iff_ne,ne_eq] at hk
   simp only at e ⊢
   split at e
   ·rename_i hc
    rw [if_pos hc]
    obtain ⟨elems,e1,e2⟩:=bind_imp e
    simp only [Option.map_eq_some_iff,if_true] at e2
    obtain ⟨rest,e3,rfl⟩:=e2
    have step: ∀ i,∀ y,(∀ p∈y.2,sp p.block=true)→(W.cells? base (a.add (i*P.cellsOf e0)) (P.cellsOf e0)).bind (DataW.trod enc P W base (fun _=>true) held fuel e0)=some y→
      (W'.cells? base (a.add (i*P.cellsOf e0)) (P.cellsOf e0)).bind (DataW.trod enc P W' base sp held fuel e0)=some y:=by
     intro i y hy k
     obtain ⟨l,k1,k2⟩:=bind_imp k
     rw [h.cells k1]
     exact ih _ _ _ hk.2 k2 hy
    have h1:=mapM_imp (g:=fun i=>(W'.cells? base (a.add (i*P.cellsOf e0)) (P.cellsOf e0)).bind (DataW.trod enc P W' base sp held fuel e0)) e1 fun i _ y hy k=>step i y (fun p q=>hp p (by
     simp only [List.mem_append,List.mem_flatMap];exact .inr ⟨y,.inl hy,q⟩)) k
    rw [h1]
    simp only [Option.bind_some,Option.map_eq_some_iff]
    refine ⟨rest,?_,rfl⟩
    have h3:=mapM_imp (g:=fun j=>(W'.cells? base (a.add ((len+j)*P.cellsOf e0)) (P.cellsOf e0)).bind (DataW.trod enc P W' base sp held fuel e0)) e3 fun i _ y hy k=>step (len+i) y (fun p q=>hp p (by
     simp only [List.mem_append,List.mem_flatMap];exact .inr ⟨y,.inr hy,q⟩)) k
    split
    ·exact h3
    ·rename_i hs
     cases rest with
     |nil=>rfl
     |cons r rest=>
      exfalso
      apply hs
      have hz:=hk.1
      have:=hp (.cell a.block (a.off+0)) (by
       simp only [List.mem_append]
       exact .inl (row_mem (Nat.mul_pos (by simp only [List.length_cons];omega) (Nat.pos_of_ne_zero hz))))
      exact this
   ·cases e
  ·
   split at e
   ·rename_i hc
    rw [if_pos hc]
    simp only [Option.map_eq_some_iff] at e ⊢
    obtain ⟨xs,e1,rfl⟩:=e
    refine ⟨xs,mapM_imp e1 fun f hf y hy k=>ih _ _ _ (List.all_eq_true.1 hk f hf) k fun p q=>hp p ?_,rfl⟩
    simp only [List.mem_flatMap]
    exact ⟨y,hy,q⟩
   ·cases e
  ·
   split at e
   ·rename_i hc
    rw [if_pos hc]
    simp only [Option.map_eq_some_iff] at e ⊢
    obtain ⟨xs,e1,rfl⟩:=e
    refine ⟨xs,mapM_imp e1 fun f _ y hy k=>ih _ _ _ hk k fun p q=>hp p ?_,rfl⟩
    simp only [List.mem_flatMap]
    exact ⟨y,hy,q⟩
   ·cases e
  ·cases hk
  ·cases hk
theorem trodAll_same {W W':World} (h:Same W W') {base:Nat} {held:Bool} {sp:Nat→Bool}: ∀ {ts:List TypeId} {vs:List Value} {ds:List (DataW H)} {ps:List MemPlace},ts.all (okT P 8)=true→
  DataW.TrodAll enc P W base (fun _=>true) held ts vs ds ps→(∀ p∈ps,sp p.block=true)→DataW.TrodAll enc P W' base sp held ts vs ds ps
 |[],[],[],_,_,e,_=>e
 |_::_,_::_,_::_,_,hk,⟨p,q,⟨n,e1⟩,e2,e3⟩,hp=>by
  simp only [List.all_cons,Bool.and_eq_true] at hk
  exact ⟨p,q,⟨n,trod_same h n 8 _ _ _ hk.1 e1 fun x hx=>hp x (by rw [e3];simp [hx])⟩,trodAll_same h hk.2 e2 fun x hx=>hp x (by rw [e3];simp [hx]),e3⟩
end Go.V
end
section
namespace Go.V
open Go Go.ChangeShapes Go.WideShapes Go.ChangeAt Go.RowKit
variable {H:Type} {enc:TypeId×Value→H} {P:Program}
def Ints:List IntKind→List Value→Prop
 |[],[]=>True
 |k::ks,v::vs=>(∃ n,v=.int k n∧(Lit.int k n).wf =true)∧Ints ks vs
 |_,_=>False
theorem Ints.length: ∀ {ks:List IntKind} {vs:List Value},Ints ks vs→vs.length=ks.length
 |[],[],_=>rfl
 |_::_,_::_,h=>by simp [Ints.length h.2]
 |[],_::_,h=>h.elim
 |_::_,[],h=>h.elim
theorem Ints.append: ∀ {ks js:List IntKind} {vs us:List Value},Ints ks vs→Ints js us→Ints (ks++js) (vs++us)
 |[],_,[],_,_,h=>h
 |_::_,_,_::_,_,h,k=>⟨h.1,Ints.append h.2 k⟩
 |[],_,_::_,_,h,_=>h.elim
 |_::_,_,[],_,h,_=>h.elim
theorem post_law {f:Func} {s:ChangeSpec} {apart fresh handsOn again:Bool} {W W':World} {args:Array Value} {ds gs:List (DataW H)} {before:List MemPlace} {tb:TypeId}
  (hz:f.params.toList.all (okT P 8)=true) (hW:DataW.Whole enc P f.params.toList s.vars apart W args.toList ds gs before) (hv:s.vars=[]) (hrt:f.resultTypes= #[tb]) (htb:P.underlying tb=some .bool)
  (hfn:s.fn H (ds++gs)={results:=[.lit (.bool true)],args:=ds}) (hs:Same W W') (ho:W'.os=W.os) (hp:W'.output=W.output):
  s.post enc P f apart fresh handsOn again W args (.bool true) W':=by
 have hW':=hW
 obtain ⟨p,q,hA,hV,rfl,hfz,hnd⟩:=hW
 rw [hv] at hV
 obtain ⟨rfl,rfl⟩:=trodVars_none hV
 simp only [List.append_nil] at hW' hfn hfz hnd
 have hres: ∀ (b:Nat) (sp:Nat→Bool) (hd:Bool),DataW.TrodAll enc P W' b sp hd f.resultTypes.toList ((Value.bool true).resultList f.resultTypes.size) (s.fn H (ds++[])).results []:=by
  intro b sp hd
  rw [List.append_nil,hfn,hrt]
  exact trodAll_cons_mk (shut_bool htb true) trodAll_mk0
 have hold: ∀ x∈p,(fun b=>decide (b<W.heap.size)) x.block=true:=fun x hx=>by simpa using hW'.lt x hx
 have hargs: ∀ sp:Nat→Bool,(∀ x∈p,sp x.block=true)→DataW.TrodAll enc P W' 0 sp true f.params.toList args.toList (s.fn H (ds++[])).args p:=by
  intro sp hsp
  rw [List.append_nil,hfn]
  exact trodAll_same hs hz hA hsp
 have hvars: ∀ sp:Nat→Bool,DataW.TrodVars enc P W' sp s.vars (s.fn H (ds++[])).vars []:=by
  intro sp
  rw [List.append_nil,hfn,hv]
  rfl
 have hk:W.keptBut W' (fun x=>x∈p∧(x∈([]:List MemPlace)∨x∈p∨x∈([]:List MemPlace))):=by
  refine ⟨ho,hp,fun i hi=> ?_⟩
  rw [hs i hi]
  split
  ·rename_i e1 e2;cases e2.symm.trans e1;exact ⟨rfl,rfl,rfl,fun _ _=>rfl⟩
  ·rename_i e1 e2;cases e2.symm.trans e1;exact .inr ⟨rfl,rfl⟩
  ·rfl
 refine ⟨ds,[],p,[],p,[],by simpa using hW',hres _ _ _,hargs _ hold,hvars _,hk,fun _=> ?_⟩
 refine ⟨?_,_,_,([]++p)++[],⟨[]++p,[],trodAll_append (hargs _ (fun _ _=>rfl)) (hres _ _ _),hvars _,rfl,?_,?_⟩,?_⟩
 ·rw [hrt]
  intro j t r h1 h2
  cases j with
  |zero=>
   simp at h1 h2
   subst h1
   have:r=.bool true:=by simpa [Value.resultList] using h2.symm
   subst this
   exact okWide_bool_mk htb _
  |succ j=>simp at h1
 ·intro b off hx
  have hx':MemPlace.cell b off∈p:=by simpa using hx
  have hlt:=hW'.lt _ hx'
  have:=hfz b off hx'
  unfold World.frozen? at this ⊢
  rw [hs b hlt]
  exact this
 ·intro ha
  simpa using hnd ha
 ·intro x hx _
  simpa using hx
end Go.V
end
