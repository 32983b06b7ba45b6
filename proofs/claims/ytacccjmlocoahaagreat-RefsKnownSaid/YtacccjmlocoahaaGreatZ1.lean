/-
  Parts of the proof, from: One operation of the abstract machine against the model's: all of them.
-/
import Derived.RangeFuncLeaves
import Derived.LoopNIn
import Derived.OrdersIn
import Derived.Lib.Bytealg
import Derived.Test.YtacccjmlocoahaaGreatZ0

set_option linter.unusedVariables false
set_option linter.unusedSimpArgs false
set_option linter.unusedSectionVars false
section
namespace Go.V
variable [Gd]
def W (ro:Option Nat):Fence:={Fence.wide with round:=ro}
def TyOk (P:Program):Prop:= ∀ e,Gd.ty e↔typeOk P e=true
theorem notDefer {P:Program} {o:Oper} {vo:VOp} (h:cOp P o=some vo): ∀ c,o.op≠.defer c:=by
 intro c e
 simp only [cOp,e] at h
 cases h
theorem Sound.wp {P:Program} {o:Oper} {a:Act} {ρ:Ren} {h h':Heap} {w:World} {v:Val} {next:Act→World→Prop} {Q:Exit→Act→World→Prop} (hs:Sound P (execOp a.eval o) ρ h w v h') {ro:Option Nat} (hd: ∀ c,o.op≠.defer c)
  (k: ∀ cv w' ρ',Post ρ h w ρ' h' w'→VRel ρ' v cv→next (a.put o.dst cv) w'):o.wpIn (W ro) 0 P a w next Q:=by
 obtain ⟨nx,w',cv,ρ',hrun,hnx,hp,hv⟩:=hs
 refine ⟨fun _ _=>trivial,?_⟩
 rw [Oper.semAt_eq _ _ _ hd,hrun]
 rcases hnx with rfl|⟨rfl,rfl⟩
 ·exact k cv w' ρ' hp hv
 ·exact k _ w' ρ' hp hv
def MethSound (P:Program) (meth:TypeId→Val→String→Option (FuncId×Val)):Prop:=
 ∀ t v name f r,meth t v name=some (f,r)→f<big∧ ∀ ρ vv w,VRel ρ v vv→(∃ rv,(method (P.types.size+Made.depth) t vv name).run P w=.ok (f,rv) w∧VRel ρ r rv)∧(nilAhead (P.types.size+Made.depth) t vv name).run P w=.ok (some false) w
theorem s_nilMeth {P:Program} {ρ:Ren} {h:Heap} {w:World} (hr:HRel ρ h w) {meth:TypeId→Val→String→Option (FuncId×Val)} (hms:MethSound P meth) {o:Oper} {p:Operand} (ho:o.op=.nilCheck p) {ρo:Operand→Value} {x:Val} (hx:VRel ρ x (ρo p)) (h1:methOk meth x=true):
  Sound P (execOp ρo o) ρ h w x h:=by
 have hrun:(execOp ρo o).run P w=.ok (.value (ρo p)) w:=by
  unfold execOp
  simp only [ho]
  generalize ρo p=v at hx
  cases x with
  |func f a c=>
   cases f with
   |method n=>
    cases a with
    |nil=>cases h1
    |cons y r=>
     cases y with
     |iface t v0=>
      simp only [VRel] at hx
      rcases hx with ⟨_,a',c',rfl,ha,_⟩|⟨r,j,o,l,ts,h5,_⟩
      ·have h2:(meth t v0 n).isSome =true:=h1
       cases hm:meth t v0 n with
       |none=>rw [hm] at h2;cases h2
       |some q=>
        obtain ⟨f0,r0⟩:=q
        obtain ⟨_,hh⟩:=hms t v0 n f0 r0 hm
        obtain ⟨al⟩:=a'
        simp only [VRels] at ha
        obtain ⟨z,al',e1,hv,_⟩:=ha
        simp only [VRel] at hv
        obtain ⟨vv,rfl,hv⟩:=hv
        obtain ⟨_,hn⟩:=hh ρ vv w hv
        subst e1
        simp [hn]
      ·cases h5
     |_=>cases h1
   |_=>cases h1
  |_=>cases h1
 exact Sound.pure hr hrun hx
def CallSound (P:Program) (call:CallT):Prop:=
  ∀ f args h v h',call f args h=some (v,h')→
    (f < big → (∃ fn, P.funcs[f]? = some fn ∧ fn.body.isSome = true ∧ (fn.name == "runtime.NumGoroutine") = false) ∧
      ∀ ρ w (cargs:Array Value),HRel ρ h w→VRels ρ args cargs.toList→Calls P f cargs w (fun e w'=> ∃ cv ρ',e=.returned cv∧Post ρ h w ρ' h' w'∧VRel ρ' v cv))∧
    (∀ r, f = big + r → ∀ ρ w (cargs : Array Value) j o vals fr l ts, args = .ptr j o :: .tup vals :: fr → HRel ρ h w → ρ j = some l → l.rd = some (r, ts) → VRels ρ fr ts.toList → VRels ρ vals cargs.toList →
      ∃ fn tmps assign body,(Instr.yield l.c cargs).run P w=.ok (.round l.c fn tmps assign body) w∧RoundIn Fence.wide 0 P l.c fn tmps assign body w (fun e w'=> ∃ cv ρ',e=.returned cv∧Post ρ h w ρ' h' w'∧VRel ρ' v cv))
theorem run_callFunc {P:Program} {f:FuncId} {fn:Func} (hf:P.funcs[f]? =some fn) (hb:fn.body.isSome=true) (hn:(fn.name== "runtime.NumGoroutine")=false) (args:Array Value) (w:World):
  (callFunc f args).run P w=.ok (.enter f args) w:=by
 have hb':fn.body.isNone=false:=by cases h:fn.body<;>simp_all
 simp only [callFunc,Sem.run_bind,run_program,Result.andThen_ok,hf,hn,hb',Bool.false_eq_true,if_false,Sem.run_pure]
theorem s_op {P:Program} (hgd:TyOk P) {ρ:Ren} {h h':Heap} {w:World} (hr:HRel ρ h w) {fr:List Val} {a:Act} (hf:FRel ρ fr a) (meth:TypeId→Val→String→Option (FuncId×Val)) (hms:MethSound P meth) (call:CallT) {o:Oper} {vo:VOp} (hc:cOp P o=some vo)
  (hcb: ∀ c,o.op=.call c→ ∃ b,c.callee=.builtin b) {v:Val} (hs:step meth call fr h vo=some (v,h')):Sound P (execOp a.eval o) ρ h w v h':=by
 obtain ⟨dst,op,type,pos,after,guard⟩:=o
 cases op<;>simp only [cOp] at hc<;>(try (cases hc;done))
 case panic x=>
  cases hc
  cases hs
 case move x=>
  simp only [Option.map_eq_some_iff] at hc
  obtain ⟨y,hy,rfl⟩:=hc
  simp only [step,Option.some.injEq,Prod.mk.injEq] at hs
  obtain ⟨rfl,rfl⟩:=hs
  exact s_value hr (hf.ev hy)
 case assign x=>
  simp only [Option.map_eq_some_iff] at hc
  obtain ⟨y,hy,rfl⟩:=hc
  simp only [step,Option.some.injEq,Prod.mk.injEq] at hs
  obtain ⟨rfl,rfl⟩:=hs
  exact s_value hr (hf.ev hy)
 case pick c x y=>
  split at hc
  ·rename_i c' x' y' h1 h2 h3
   cases hc
   simp only [step] at hs
   split at hs
   ·rename_i hb
    cases hs
    exact s_pick hr (hf.ev h1) (hf.ev h2) (hf.ev h3) (b:=true) hb
   ·rename_i hb
    cases hs
    exact s_pick hr (hf.ev h1) (hf.ev h2) (hf.ev h3) (b:=false) hb
   ·cases hs
  ·cases hc
 case alloc e=>
  split at hc
  ·rename_i hty
   simp only [Option.map_eq_some_iff] at hc
   obtain ⟨z,hz,rfl⟩:=hc
   simp only [step,Option.some.injEq,Prod.mk.injEq] at hs
   obtain ⟨rfl,rfl⟩:=hs
   exact s_alloc hr ((hgd e).2 hty) hz
  ·cases hc
 case box e x=>
  split at hc
  ·rename_i y hy
   split at hc
   ·rename_i hty
    cases hc
    simp only [step] at hs
    split at hs
    ·cases hs
     exact s_box hr ((hgd e).2 hty) (hf.ev hy)
    ·cases hs
   ·cases hc
  ·cases hc
 case build t parts=>
  split at hc
  ·rename_i z fs hz hu
   split at hc
   ·rename_i hfs
    simp only [Option.map_eq_some_iff] at hc
    obtain ⟨ps,hps,rfl⟩:=hc
    simp only [step] at hs
    split at hs
    ·rename_i c hfill
     cases hs
     exact s_build_struct hr hf hu hz hps hfs hfill
    ·cases hs
   ·cases hc
  ·rename_i z n e hz hu
   split at hc
   ·rename_i hi
    simp only [Option.map_eq_some_iff] at hc
    obtain ⟨ps,hps,rfl⟩:=hc
    obtain ⟨i,hi⟩:=Option.isSome_iff_exists.1 hi
    simp only [step] at hs
    split at hs
    ·rename_i c hfill
     cases hs
     exact s_build_array hr hf hu hz hi hps hfill
    ·cases hs
   ·cases hc
  ·cases hc
 case buildSlice t len parts=>
  split at hc
  ·rename_i e hu
   split at hc
   ·rename_i z hz
    split at hc
    ·rename_i hh
     simp only [Option.map_eq_some_iff] at hc
     obtain ⟨ps,hps,rfl⟩:=hc
     simp only [step] at hs
     split at hs
     ·rename_i c hfill
      cases hs
      exact s_bslice hr hf ((hgd e).2 hh.2) hu hz hh.1.1 hh.1.2 hps hfill
     ·cases hs
    ·cases hc
   ·cases hc
  ·cases hc
 case load t x=>
  split at hc
  ·rename_i d y hd hy
   cases hc
   simp only [step] at hs
   split at hs
   ·rename_i b o hb
    have hv:=hf.ev hy
    rw [hb] at hv
    split at hs
    ·rename_i l hl
     split at hs
     ·rename_i ha
      cases hs
      exact s_load hr hd hl hv (.inl ⟨ha,rfl⟩)
     ·rename_i ha
      split at hs
      ·cases hs
       exact s_load hr hd hl hv (.inr ⟨by simpa using ha,rfl⟩)
      ·cases hs
    ·cases hs
   ·rename_i hb
    have hv:=hf.ev hy
    rw [hb] at hv
    simp only [VRel] at hv
   ·rename_i hb
    have hv:=hf.ev hy
    rw [hb] at hv
    split at hs
    ·rename_i h0
     cases hs
     simp only [VRel] at hv
     obtain ⟨ad,hv⟩:=hv
     obtain ⟨i,hi⟩:=info_of_underlying hd
     have e0:execOp a.eval ⟨dst,.load t x,type,pos,after,guard⟩=(do pure (.value (←Instr.loadAt t (a.eval x)))):=rfl
     rw [e0,hv]
     exact Sound.pure hr (cv:=.agg #[]) (by simp [Instr.loadAt,Instr.sureAddr,loadVar,run_isAgg_of hd,h0.1,run_sizeOf_of hi,h0.2,loadCells,loadCellsFrom]) (by simp only [VRel];exact ⟨_,rfl,.nil⟩)
    ·cases hs
   ·cases hs
  ·cases hc
 case store t x y=>
  split at hc
  ·rename_i i x' y' hi hx hy
   cases hc
   simp only [step] at hs
   split at hs
   ·rename_i b o hb
    have hv:=hf.ev hx
    rw [hb] at hv
    split at hs
    ·rename_i hn
     split at hs
     ·rename_i h1 hst
      cases hs
      exact s_store hr hi hn hst (hf.ev hy) hv
     ·cases hs
    ·cases hs
   ·cases hs
  ·cases hc
 case nilCheck x=>
  simp only [Option.map_eq_some_iff] at hc
  obtain ⟨y,hy,rfl⟩:=hc
  simp only [step] at hs
  split at hs
  ·rename_i hok
   cases hs
   rcases hok with hok|hok
   ·exact s_nilCheck hr rfl (hf.ev hy) hok
   ·exact s_nilMeth hr hms rfl (hf.ev hy) hok
  ·cases hs
 case binOp op t x y t2=>
  split at hc
  ·rename_i x' y' hx hy
   split at hc
   ·rename_i hop
    split at hc
    ·rename_i hnil
     simp only [Option.map_eq_some_iff] at hc
     obtain ⟨k,hk,rfl⟩:=hc
     simp only [step] at hs
     split at hs
     ·rename_i p hp
      cases hs
      exact s_eqnil hr hop hnil hk (hf.ev hx) (hf.ev hy) hp
     ·cases hs
    ·split at hc
     ·cases hc
     ·rename_i hg
      simp only [Option.map_eq_some_iff] at hc
      obtain ⟨os,hos,rfl⟩:=hc
      simp only [step] at hs
      split at hs
      ·rename_i p hp
       cases hs
       exact s_eql hr hop (by simpa using hg) hos (hf.ev hx) (hf.ev hy) hp
      ·cases hs
   ·rename_i hop
    cases hc
    simp only [step,pureV] at hs
    split at hs
    ·rename_i r hr'
     cases hs
     exact s_arith hr hop (hf.ev hx) (hf.ev hy) hr'
    ·cases hs
  ·cases hc
 case unOp op t x=>
  simp only [Option.map_eq_some_iff] at hc
  obtain ⟨y,hy,rfl⟩:=hc
  simp only [step,pureV] at hs
  split at hs
  ·rename_i r hr'
   cases hs
   exact s_un hr (hf.ev hy) hr'
  ·cases hs
 case convert s t x=>
  split at hc
  ·rename_i k0 k y hs1 ht1 hy
   cases hc
   simp only [step] at hs
   split at hs
   ·rename_i k' n hv
    cases hs
    exact s_convInt hr hs1 ht1 (hf.ev hy) hv
   ·cases hs
  ·rename_i y hs1 ht1 hy
   cases hc
   simp only [step] at hs
   split at hs
   ·rename_i l hv
    cases hs
    exact s_convSame hr hs1 ht1 (hf.ev hy) hv
   ·cases hs
  ·rename_i e y hs1 ht1 hy
   split at hc
   ·rename_i he
    split at hc
    ·rename_i hty
     cases hc
     simp only [step] at hs
     split at hs
     ·rename_i l hv
      cases hs
      exact s_s2b hr hs1 ht1 he ((hgd e).2 hty) (hf.ev hy) hv
     ·cases hs
    ·cases hc
   ·cases hc
  ·rename_i e y hs1 ht1 hy
   split at hc
   ·rename_i he
    cases hc
    exact s_b2s hr hs1 he ht1 (hf.ev hy) hs
   ·cases hc
  ·cases hc
 case makeInterface t x=>
  split at hc
  ·cases hc
  ·rename_i d hn hd
   simp only [Option.map_eq_some_iff] at hc
   obtain ⟨y,hy,rfl⟩:=hc
   simp only [step] at hs
   split at hs
   ·cases hs
   ·cases hs
    exact s_mkiface hr hd (fun m hm=>hn m hm) (hf.ev hy)
  ·cases hc
 case makeFunc fn first captured=>
  split at hc
  ·rename_i x y hx hy
   split at hc
   rotate_left
   ·cases hc
   rename_i hsm
   cases hc
   simp only [step,Option.some.injEq,Prod.mk.injEq] at hs
   obtain ⟨rfl,rfl⟩:=hs
   have:=s_mkfunc (P:=P) hr (f:=fn) hsm (hf.evs hx) (hf.evs hy)
   have e1:(List.map a.eval first.toList).toArray =Array.map a.eval first:=Array.ext' (by simp)
   have e2:(List.map a.eval captured.toList).toArray =Array.map a.eval captured:=Array.ext' (by simp)
   rw [e1,e2] at this
   exact this
  ·cases hc
 case makeSlice t l c=>
  split at hc
  ·rename_i e l' c' hu hl hcc
   split at hc
   ·rename_i z hz
    split at hc
    ·rename_i hzl
     cases hc
     simp only [step] at hs
     split at hs
     ·rename_i k1 n1 k2 n2 e1 e2
      split at hs
      ·rename_i hb
       cases hs
       have h1:=hf.ev hl
       have h2:=hf.ev hcc
       rw [e1] at h1
       rw [e2] at h2
       exact s_mkslice hr ((hgd _).2 hzl.2) hu hz hzl.1 h1 h2 ⟨hb.1,hb.2.1,hb.2.2.1,hb.2.2.2.1⟩
      ·cases hs
     ·cases hs
    ·cases hc
   ·cases hc
  ·cases hc
 case slice t x lo hi mx=>
  split at hc
  ·rename_i x' lo' hi' hu hx hlo hhi hmx
   cases hc
   have hm0:mx=none:=by cases mx with
    |none=>rfl
    |some m=>simp [cOpt] at hmx
   subst hm0
   simp only [step] at hs
   split at hs
   ·rename_i s e1
    split at hs
    ·rename_i l k m hb
     cases hs
     exact s_sliceStr hr hf hu (hf.ev hx) e1 hlo hhi hb
    ·cases hs
   ·cases hs
  ·rename_i e x' lo' hi' mx' hu hx hlo hhi hmx
   split at hc
   ·rename_i hi0
    obtain ⟨i,hi0⟩:=Option.isSome_iff_exists.1 hi0
    cases hc
    simp only [step,pureV] at hs
    split at hs
    ·rename_i r hrr
     cases hs
     exact s_slice hr hf hu hi0 (hf.ev hx) hlo hhi hmx hrr
    ·cases hs
   ·cases hc
  ·rename_i n e x' lo' hi' mx' hu hx hlo hhi hmx
   split at hc
   ·rename_i hi0
    obtain ⟨i,hi0⟩:=Option.isSome_iff_exists.1 hi0
    cases hc
    simp only [step] at hs
    split at hs
    ·rename_i b o e1
     have hv:=hf.ev hx
     rw [e1] at hv
     split at hs
     ·rename_i l k m hb
      cases hs
      exact s_sliceArr hr hf hu hi0 hv hlo hhi hmx hb
     ·cases hs
    ·cases hs
   ·cases hc
  ·cases hc
 case fieldAddr t x f=>
  split at hc
  ·rename_i fs x' hu hx
   split at hc
   ·rename_i fl hfl
    split at hc
    ·rename_i hh
     obtain ⟨j,hj⟩:=Option.isSome_iff_exists.1 hh
     split at hc
     ·rename_i hz
      cases hc
      simp only [step] at hs
      split at hs
      ·rename_i b o e1
       have hv:=hf.ev hx
       rw [e1] at hv
       split at hs
       ·rename_i cs hg
        cases hs
        exact s_faddrZ hr hu hfl hj hz (fun e=>(hgd e).1) hg hv
       ·cases hs
      ·rename_i e1
       have hv:=hf.ev hx
       rw [e1] at hv
       simp only [VRel] at hv
      ·cases hs
     ·rename_i hz
      cases hc
      simp only [step] at hs
      split at hs
      ·rename_i b o e1
       have hv:=hf.ev hx
       rw [e1] at hv
       cases hs
       exact s_faddr hr hu hfl hj hz hv
      ·rename_i e1
       have hv:=hf.ev hx
       rw [e1] at hv
       simp only [VRel] at hv
      ·cases hs
    ·cases hc
   ·cases hc
  ·cases hc
 case field t x f=>
  split at hc
  ·rename_i fs x' hu hx
   split at hc
   ·rename_i fl hfl
    split at hc
    ·rename_i hh
     obtain ⟨d,hd⟩:=Option.isSome_iff_exists.1 hh
     cases hc
     simp only [step] at hs
     split at hs
     ·rename_i l e1
      have hv:=hf.ev hx
      rw [e1] at hv
      split at hs
      ·split at hs
       ·rename_i ha
        cases hs
        exact s_field hr hu hfl hd hv (.inl ⟨ha,rfl⟩)
       ·rename_i ha
        split at hs
        ·rename_i x0 hx0
         cases hs
         exact s_field hr hu hfl hd hv (.inr ⟨by simpa using ha,hx0⟩)
        ·cases hs
      ·cases hs
     ·cases hs
    ·cases hc
   ·cases hc
  ·cases hc
 case indexAddr t x i=>
  split at hc
  ·rename_i e x' i' hu hx hi
   split at hc
   ·rename_i hh
    obtain ⟨j,hj⟩:=Option.isSome_iff_exists.1 hh
    cases hc
    simp only [step] at hs
    split at hs
    ·rename_i b o len cap ls k n e1 e2
     have hv:=hf.ev hx
     have hn:=hf.ev hi
     rw [e1] at hv
     rw [e2] at hn
     split at hs
     ·rename_i h0
      cases hs
      exact s_iaddr hr hu hj hv hn h0
     ·cases hs
    ·rename_i e1 e2
     have hv:=hf.ev hx
     rw [e1] at hv
     simp only [VRel] at hv
    ·cases hs
   ·cases hc
  ·rename_i n0 e x' i' hu hx hi
   split at hc
   ·rename_i hh
    obtain ⟨j,hj⟩:=Option.isSome_iff_exists.1 hh
    cases hc
    simp only [step] at hs
    split at hs
    ·rename_i b o k n e1 e2
     have hv:=hf.ev hx
     have hn:=hf.ev hi
     rw [e1] at hv
     rw [e2] at hn
     split at hs
     ·rename_i h0
      cases hs
      exact s_iaddrArr hr hu hj hv hn h0
     ·cases hs
    ·rename_i e1 e2
     have hv:=hf.ev hx
     rw [e1] at hv
     simp only [VRel] at hv
    ·cases hs
   ·cases hc
  ·cases hc
 case index t x i=>
  split at hc
  ·rename_i x' i' hu hx hi
   cases hc
   simp only [step] at hs
   split at hs
   ·rename_i s k n e1 e2
    have hv:=hf.ev hx
    have hn:=hf.ev hi
    rw [e1] at hv
    rw [e2] at hn
    split at hs
    ·rename_i h0
     split at hs
     ·rename_i c hcc
      cases hs
      exact s_index hr hu hv hn h0 hcc
     ·cases hs
    ·cases hs
   ·cases hs
  ·rename_i n0 e x' i' hu hx hi
   split at hc
   ·rename_i hh
    obtain ⟨d,hd⟩:=Option.isSome_iff_exists.1 hh
    cases hc
    simp only [step] at hs
    split at hs
    ·rename_i l k n e1 e2
     have hv:=hf.ev hx
     have hn:=hf.ev hi
     rw [e1] at hv
     rw [e2] at hn
     split at hs
     ·rename_i h0
      split at hs
      ·rename_i ha
       cases hs
       exact s_indexArr hr hu hd hv hn h0 (.inl ⟨ha,rfl⟩)
      ·rename_i ha
       split at hs
       ·rename_i x0 hx0
        cases hs
        exact s_indexArr hr hu hd hv hn h0 (.inr ⟨by simpa using ha,hx0⟩)
       ·cases hs
     ·cases hs
    ·cases hs
   ·cases hc
  ·cases hc
 case extract x i=>
  simp only [Option.map_eq_some_iff] at hc
  obtain ⟨y,hy,rfl⟩:=hc
  simp only [step] at hs
  split at hs
  ·rename_i l e1
   split at hs
   ·rename_i v0 hv0
    cases hs
    exact s_ext hr (hf.ev hy) e1 hv0
   ·cases hs
  ·cases hs
 case makeMap t r=>
  cases r with
  |some r=>cases hc
  |none=>
   simp only at hc
   split at hc
   ·cases hc
    simp only [step] at hs
    cases hs
    exact s_mkmap hr t
   ·cases hc
 case lookup t x i ok=>
  split at hc
  ·rename_i kt et x' i' hu hx hi
   split at hc
   ·rename_i os z hos hz
    cases hc
    simp only [step] at hs
    split at hs
    ·rename_i hkk
     split at hs
     ·cases hs
     ·rename_i r hr0
      cases hs
      split at hr0
      ·rename_i e1
       cases hr0
       have:=s_lookup (P:=P) (r:=none) hr hu hos hz (hf.ev hx) (hf.ev hi) hkk (.inl ⟨e1,rfl⟩) rfl ok
       exact this
      ·rename_i b e1
       split at hr0
       ·rename_i es hg
        exact s_lookup (P:=P) hr hu hos hz (hf.ev hx) (hf.ev hi) hkk (.inr ⟨b,e1,hg⟩) hr0 ok
       ·cases hr0
      ·rename_i e1
       have:=hf.ev hx
       rw [e1] at this
       simp only [VRel] at this
      ·cases hr0
    ·cases hs
   ·cases hc
  ·cases hc
 case mapUpdate t m k x=>
  split at hc
  ·rename_i kt et m' k' x' hu hm hk hx
   split at hc
   ·rename_i os hos
    cases hc
    simp only [step] at hs
    split at hs
    ·rename_i b e1
     have hm':=hf.ev hm
     rw [e1] at hm'
     split at hs
     ·rename_i hh
      split at hs
      ·rename_i es hg
       split at hs
       ·rename_i es' hes
        cases hs
        exact s_mapUpdate (P:=P) hr hu hos hm' (hf.ev hk) (hf.ev hx) hh.1 hh.2 hg hes
       ·cases hs
      ·cases hs
     ·cases hs
    ·cases hs
   ·cases hc
  ·cases hc
 case insert t m k x=>
  split at hc
  ·rename_i kt et m' k' x' hu hm hk hx
   split at hc
   ·rename_i os hos
    cases hc
    simp only [step] at hs
    split at hs
    ·rename_i b e1
     have hm':=hf.ev hm
     rw [e1] at hm'
     split at hs
     ·rename_i hh
      split at hs
      ·rename_i es hg
       split at hs
       ·rename_i es' hes
        cases hs
        exact s_mapUpdate (P:=P) hr hu hos hm' (hf.ev hk) (hf.ev hx) hh.1 hh.2 hg hes
       ·cases hs
      ·cases hs
     ·cases hs
    ·cases hs
   ·cases hc
  ·cases hc
 case call c=>
  obtain ⟨callee,args,argTypes⟩:=c
  split at hc
  ·cases hc
  ·rename_i ys hys
   have hargs:=hf.evs hys
   have hb: ∀ b,execOp a.eval ⟨dst,.call ⟨.builtin b,args,argTypes⟩,type,pos,after,guard⟩=builtin b argTypes type (args.map fun| .const _=>true|_=>false) (args.map a.eval):=fun b=>rfl
   obtain ⟨b,hbb⟩:=hcb _ rfl
   simp only at hbb
   subst hbb
   ·rw [hb b]
    have one: ∀ {y:Opd},ys=[y]→ ∃ xv,args.map a.eval= #[xv]∧VRel ρ (V.ev fr y) xv:=by
     intro y hy
     subst hy
     simp only [V.evs] at hargs
     simp only [VRels] at hargs
     obtain ⟨xv,s,he,h1,rfl⟩:=hargs
     exact ⟨xv,Array.ext' (by simpa using he),h1⟩
    have two: ∀ {y z:Opd},ys=[y,z]→ ∃ xv yv,args.map a.eval= #[xv,yv]∧VRel ρ (V.ev fr y) xv∧VRel ρ (V.ev fr z) yv:=by
     intro y z hy
     subst hy
     simp only [V.evs] at hargs
     simp only [VRels] at hargs
     obtain ⟨xv,s,he,h1,yv,s',rfl,h2,rfl⟩:=hargs
     exact ⟨xv,yv,Array.ext' (by simpa using he),h1,h2⟩
    have arr1: ∀ {t:TypeId},argTypes.toList=[t]→argTypes= #[t]:=fun h=>Array.ext' (by simpa using h)
    have arr2: ∀ {t u:TypeId},argTypes.toList=[t,u]→argTypes= #[t,u]:=fun h=>Array.ext' (by simpa using h)
    cases b<;>simp only at hc<;>(try (cases hc;done))
    case append=>
     split at hc
     ·rename_i t u x y hat
      have:=arr2 hat;subst this
      obtain ⟨xv,yv,hav,hx,hy⟩:=two rfl
      rw [hav]
      split at hc
      ·rename_i e d hu1 hu2
       split at hc
       ·rename_i z hz
        obtain ⟨i,zv,hi,hiz,hzc,hzr⟩:=cZero_rel (ρ:=ρ) hz
        split at hc
        ·rename_i hzl
         have hty:=(hgd e).2 hzl.2
         replace hzl:=hzl.1
         have hzs:zv.cells.size=P.cellsOf e:=by have:=hzc.length;simp at this;omega
         split at hc
         ·rename_i k0
          cases hc
          simp only [step] at hs
          split at hs
          ·rename_i k n e1
           rw [e1] at hy
           simp only [VRel] at hy;subst hy
           split at hs
           ·rename_i hh
            refine s_appendN hr hu1 (appends_zeros hu1 hu2 hi hiz hzs (zero_any hz hi hiz) hty hh.1 hh.2.1 hh.2.2.1) (new:=repeatL z n.toNat) (repeatL_rel hzc n.toNat) ?_ hx hs type
            simp [hzs]
           ·cases hs
          ·cases hs
         ·cases hc
          simp only [step,append] at hs
          split at hs
          ·cases hs
          ·rename_i n hn
           split at hs
           ·cases hs
           ·rename_i new hnew
            obtain ⟨m,hm,hml,hrun⟩:=firstCells_rel (P:=P) hr hy hnew
            exact s_appendN hr hu1 (appends_cells hu1 hu2 (by simp) hi hiz hzs (zero_any hz hi hiz) hty (fun w=>lenOf_rel hy hn w) hrun) hm hml hx hs type
         ·cases hc
          simp only [step,append] at hs
          split at hs
          ·cases hs
          ·rename_i n hn
           split at hs
           ·cases hs
           ·rename_i new hnew
            obtain ⟨m,hm,hml,hrun⟩:=firstCells_rel (P:=P) hr hy hnew
            exact s_appendN hr hu1 (appends_cells hu1 hu2 (by simp) hi hiz hzs (zero_any hz hi hiz) hty (fun w=>lenOf_rel hy hn w) hrun) hm hml hx hs type
         ·cases hc
        ·cases hc
       ·cases hc
      ·cases hc
     ·cases hc
    case cap=>
     split at hc
     ·rename_i t x hat
      have:=arr1 hat;subst this
      obtain ⟨xv,hav,hx⟩:=one rfl
      rw [hav]
      split at hc
      ·rename_i e hu
       cases hc
       simp only [step] at hs
       split at hs
       ·rename_i e1
        cases hs
        exact s_cap hr hu hx (.inl ⟨e1,rfl⟩) type
       ·rename_i b o n c e1
        cases hs
        exact s_cap hr hu hx (.inr ⟨_,_,_,e1⟩) type
       ·rename_i e1
        rw [e1] at hx
        simp only [VRel] at hx
       ·cases hs
      ·rename_i n e hu
       cases hc
       simp only [step] at hs
       cases hs
       exact s_cap_array hr hu xv type
      ·cases hc
     ·cases hc
    case clear=>
     split at hc
     ·rename_i t x hat
      have:=arr1 hat;subst this
      obtain ⟨xv,hav,hx⟩:=one rfl
      rw [hav]
      split at hc
      ·rename_i e hu
       simp only [Option.map_eq_some_iff] at hc
       obtain ⟨z,hz,rfl⟩:=hc
       simp only [step] at hs
       split at hs
       ·rename_i e1
        rw [e1] at hx
        cases hs
        exact s_clear_nil hr hu hx type
       ·rename_i b o len cap ls e1
        rw [e1] at hx
        split at hs
        ·rename_i h0
         cases hs
         exact s_clear hr hu hz hx (.inl ⟨h0,rfl⟩) type
        ·rename_i h0
         split at hs
         ·rename_i h1 hst
          cases hs
          exact s_clear hr hu hz hx (.inr ⟨h0,hst⟩) type
         ·cases hs
       ·rename_i e1
        rw [e1] at hx
        cases hs
        exact s_clear_nilm hr hu hx type
       ·rename_i b e1
        rw [e1] at hx
        split at hs
        ·rename_i hfl
         split at hs
         ·rename_i es hg
          cases hs
          exact s_clear_map hr hu hx hfl hg type
         ·cases hs
        ·cases hs
       ·cases hs
      ·rename_i kt et hu
       cases hc
       simp only [step] at hs
       split at hs
       ·rename_i e1
        rw [e1] at hx
        cases hs
        exact s_clear_nil hr hu hx type
       ·rename_i b o len cap ls e1
        rw [e1] at hx
        split at hs
        ·rename_i h0
         cases hs
         obtain rfl:len=0:=by simpa using h0
         exact s_clear_zero hr hu hx type
        ·rename_i h0
         split at hs
         ·rename_i h1 hst
          exfalso
          unfold Heap.store at hst
          split at hst
          ·split at hst
           ·split at hst
            ·rename_i hh
             cases len with
             |zero=>simp at h0
             |succ n=>simp [repeatL,Val.one] at hh
            ·cases hst
           ·cases hst
          ·cases hst
         ·cases hs
       ·rename_i e1
        rw [e1] at hx
        cases hs
        exact s_clear_nilm hr hu hx type
       ·rename_i b e1
        rw [e1] at hx
        split at hs
        ·rename_i hfl
         split at hs
         ·rename_i es hg
          cases hs
          exact s_clear_map hr hu hx hfl hg type
         ·cases hs
        ·cases hs
       ·cases hs
      ·cases hc
     ·cases hc
    case copy=>
     split at hc
     ·rename_i t u x y hat
      have:=arr2 hat;subst this
      obtain ⟨xv,yv,hav,hx,hy⟩:=two rfl
      rw [hav]
      split at hc
      ·rename_i e hu
       split at hc
       ·rename_i hi
        obtain ⟨i,hi⟩:=Option.isSome_iff_exists.1 hi
        cases hc
        simp only [step] at hs
        split at hs
        ·cases hs
        ·rename_i m hm
         split at hs
         ·rename_i e1
          rw [e1] at hx
          cases hs
          exact s_copy_nil hr hu hi hx hy hm type
         ·rename_i b o len cap ls e1
          rw [e1] at hx
          split at hs
          ·cases hs
          ·rename_i c hcc
           split at hs
           ·rename_i h0
            cases hs
            exact s_copy hr hu hi hx hy hm hcc (.inl ⟨h0,rfl⟩) type
           ·rename_i h0
            split at hs
            ·rename_i h1 hst
             cases hs
             exact s_copy hr hu hi hx hy hm hcc (.inr ⟨h0,hst⟩) type
            ·cases hs
         ·cases hs
       ·cases hc
      ·cases hc
     ·cases hc
    case len=>
     split at hc
     ·rename_i t x hat
      have:=arr1 hat;subst this
      obtain ⟨xv,hav,hx⟩:=one rfl
      rw [hav]
      split at hc
      ·rename_i hu
       cases hc
       simp only [step] at hs
       split at hs
       ·rename_i s e1
        rw [e1] at hx
        cases hs
        exact s_len_str hr hu hx type
       ·cases hs
      ·rename_i e hu
       cases hc
       simp only [step] at hs
       split at hs
       ·rename_i e1
        rw [e1] at hx
        cases hs
        exact s_len_slice hr hu hx (n:=0) rfl (by simp) type
       ·rename_i b o n cap ls e1
        rw [e1] at hx
        cases hs
        exact s_len_slice hr hu hx (n:=n) rfl (by simp) type
       ·rename_i e1
        rw [e1] at hx
        simp only [VRel] at hx
       ·cases hs
      ·rename_i k e hu
       cases hc
       simp only [step] at hs
       split at hs
       ·rename_i e1
        rw [e1] at hx
        cases hs
        exact s_len_nilmap hr hu hx type
       ·rename_i b e1
        rw [e1] at hx
        split at hs
        ·rename_i es hg
         cases hs
         exact s_len_map hr hu hg hx type
        ·cases hs
       ·rename_i e1
        rw [e1] at hx
        simp only [VRel] at hx
       ·cases hs
      ·rename_i n e hu
       cases hc
       simp only [step] at hs
       cases hs
       exact s_len_array hr hu xv type
      ·rename_i p hu
       split at hc
       ·rename_i n e hu2
        cases hc
        simp only [step] at hs
        cases hs
        exact s_len_ptr hr hu hu2 xv type
       ·cases hc
      ·cases hc
     ·cases hc
    case max=>
     cases hc
     simp only [step,pureV] at hs
     split at hs
     ·cases hs
     ·rename_i x r hev
      rw [hev] at hargs
      simp only [VRels] at hargs
      obtain ⟨xv,m,hm,hx,hr2⟩:=hargs
      split at hs
      ·rename_i r0 hr0
       cases hs
       have:=s_minmax (P:=P) hr hx hr2 hr0 argTypes type
       have e1:(xv::m).toArray =Array.map a.eval args:=Array.ext' (by simpa using hm.symm)
       rw [e1] at this
       exact this
      ·cases hs
    case min=>
     cases hc
     simp only [step,pureV] at hs
     split at hs
     ·cases hs
     ·rename_i x r hev
      rw [hev] at hargs
      simp only [VRels] at hargs
      obtain ⟨xv,m,hm,hx,hr2⟩:=hargs
      split at hs
      ·rename_i r0 hr0
       cases hs
       have:=s_minmax (P:=P) hr hx hr2 hr0 argTypes type
       have e1:(xv::m).toArray =Array.map a.eval args:=Array.ext' (by simpa using hm.symm)
       rw [e1] at this
       exact this
      ·cases hs
end Go.V
end
section
namespace Go.V
variable [Gd]
theorem cs_num:(csName== "runtime.NumGoroutine")=false:=by kernel_rfl
theorem cs_next:(Extern.allNextRows.lookup csName).isNone =true:=by kernel_rfl
theorem cs_gen:(Extern.allGenericRows.lookup csName).isNone =true:=by kernel_rfl
theorem cs_typed:(Extern.allTypedRows.lookup csName).isNone =true:=by kernel_rfl
theorem cs_row:Extern.allRows.lookup csName=some Extern.BytealgCompare.compare:=by kernel_rfl
theorem cmpStr_fn {fn:Func} (h:isCmpStr fn=true):fn.body.isNone=true∧(fn.name== "runtime.NumGoroutine")=false∧Extern.findNext fn=none∧Extern.find fn=some Extern.BytealgCompare.compare:=by
 unfold isCmpStr at h
 simp only [Bool.and_eq_true,beq_iff_eq,Option.isNone_iff_eq_none] at h
 obtain ⟨⟨h1,h2⟩,h3⟩:=h
 refine ⟨by simp [h1],by rw [h2];exact cs_num,?_,?_⟩
 ·have:=cs_next
  rw [Option.isNone_iff_eq_none] at this
  simp only [Extern.findNext,h2,h3,this]
  rfl
 ·have q1:=cs_gen
  have q2:=cs_typed
  rw [Option.isNone_iff_eq_none] at q1 q2
  simp only [Extern.find,h2,q1,q2,cs_row]
  rfl
theorem cmpBytes_eq: ∀ a b:List UInt8,Lib.compareBytes a b=cmpBytes a b
 |[],[]=>by simp [Lib.compareBytes,cmpBytes,bytesLess]
 |[],_::_=>by simp [Lib.compareBytes,cmpBytes,bytesLess]
 |_::_,[]=>by simp [Lib.compareBytes,cmpBytes,bytesLess]
 |a::x,b::y=>by
  have ih:=cmpBytes_eq x y
  simp only [Lib.compareBytes,cmpBytes,bytesLess] at ih ⊢
  by_cases h1:a<b
  ·simp [h1]
  ·by_cases h2:a=b
   ·subst h2;simp [UInt8.lt_irrefl,ih]
   ·have h3:b<a:=UInt8.lt_of_le_of_ne (UInt8.not_lt.1 h1) (Ne.symm h2)
    simp [h1,h2,h3]
theorem cmpStr_run {P:Program} {ρ:Ren} {h:Heap} {w:World} {f:FuncId} {fn:Func} (hf:P.funcs[f]? =some fn) (ho:isCmpStr fn=true) {l:List Val} {cargs:Array Value} (ha:VRels ρ l cargs.toList) {v:Val} (hv:outer h .compareString l=some v):
  ∃ cv,(callFunc f cargs).run P w=.ok (.value cv) w∧VRel ρ v cv:=by
 obtain ⟨hb,hn,h1,h2⟩:=cmpStr_fn ho
 unfold outer at hv
 split at hv
 ·rename_i a b _
  cases hv
  simp only [VRels,VRel] at ha
  obtain ⟨_,_,e1,rfl,_,_,rfl,rfl,rfl⟩:=ha
  obtain rfl:cargs=_:=Array.toList_inj.1 e1
  refine ⟨.int .i64 (cmpBytes a b),?_,by simp only [VRel]⟩
  rw [run_callFunc_extern hf hn hb h1 h2]
  have:=Lib.run_compareString (P:=P) ⟨⟨a⟩⟩ ⟨⟨b⟩⟩ w
  first
   |(rw [this,cmpBytes_eq];rfl)
   |(simp [this,Result.andThen,cmpBytes_eq])
 ·exact absurd (show Ext.compareString=Ext.indexByteString by assumption) (by decide)
 ·exact absurd (show Ext.compareString=Ext.countString by assumption) (by decide)
 ·exact absurd (show Ext.compareString=Ext.overlaps by assumption) (by decide)
 ·cases hv
end Go.V
end
section
namespace Go.V
variable [Gd]
theorem callsW {P:Program} {f:FuncId} {args:Array Value} {w:World} {R:Ending→World→Prop} {ro:Option Nat} (h:Calls P f args w R):CallsIn (W ro) 0 P f args w R:=callsIn_wide (n:=0).2 h
theorem roundW {P:Program} {l:Nat} {f:FuncId} {tmps:Array Value} {x y:Code} {w:World} {R:Ending→World→Prop} {ro:Option Nat} (h:RoundIn Fence.wide 0 P l f tmps x y w R):RoundIn (W ro) 0 P l f tmps x y w R:=h
theorem op_wp {P:Program} (hgd:TyOk P) {ρ:Ren} {h h':Heap} {w:World} (hr:HRel ρ h w) {fr:List Val} {a a0:Act} (hf:FRel ρ fr a0) {meth:TypeId→Val→String→Option (FuncId×Val)} (hms:MethSound P meth) {call:CallT} (hcs:CallSound P call)
  {o:Oper} {vo:VOp} (hex:execOp a.eval o=execOp a0.eval o) (hc:cOp P o=some vo) {v:Val} (hs:step meth call fr h vo=some (v,h')) {next:Act→World→Prop} {Q:Exit→Act→World→Prop} {ro:Option Nat}
  (k: ∀ cv w' ρ',Post ρ h w ρ' h' w'→VRel ρ' v cv→next (a.put o.dst cv) w'):o.wpIn (W ro) 0 P a w next Q:=by
 have hnd:=notDefer hc
 by_cases hcb: ∀ c,o.op=.call c→ ∃ b,c.callee=.builtin b
 ·have:=s_op hgd hr hf meth hms call hc hcb hs
  rw [←hex] at this
  exact this.wp hnd k
 ·obtain ⟨dst,op,type,pos,after,guard⟩:=o
  have hcall: ∃ c,op=.call c:=by
   cases op<;>first|exact ⟨_,rfl⟩|exact absurd (fun c h=>by cases h) hcb
  obtain ⟨c,rfl⟩:=hcall
  obtain ⟨callee,args,argTypes⟩:=c
  simp only [cOp] at hc
  split at hc
  ·cases hc
  ·rename_i ys hys
   have hargs:=hf.evs hys
   have fin: ∀ (f:FuncId) (l:List Val) (cargs:Array Value),f<big→call f l h=some (v,h')→VRels ρ l cargs.toList→(execOp a0.eval ⟨dst,.call ⟨callee,args,argTypes⟩,type,pos,after,guard⟩).run P w=(callFunc f cargs).run P w→
     Oper.wpIn (W ro) 0 P ⟨dst,.call ⟨callee,args,argTypes⟩,type,pos,after,guard⟩ a w next Q:=by
    intro f l cargs h0 h1 h2 h3
    obtain ⟨⟨fn,hfn,hb,hn⟩,hcalls⟩:=(hcs f l h v h' h1).1 h0
    refine ⟨fun _ _=>trivial,?_⟩
    rw [Oper.semAt_eq _ _ _ hnd,hex,h3,run_callFunc hfn hb hn]
    exact ⟨fun e=>(by cases e),callsW ((hcalls ρ w cargs hr h2).mono fun e w' ⟨cv,ρ',he,hp,hv⟩=>by subst he;exact k cv w' ρ' hp hv)⟩
   have viaval: ∀ (x:Operand) (y:Opd),callee=.value x→cOpd x=some y→step meth call fr h (.callv y ys)=some (v,h')→Oper.wpIn (W ro) 0 P ⟨dst,.call ⟨callee,args,argTypes⟩,type,pos,after,guard⟩ a w next Q:=by
    intro x y hx hy hst
    subst hx
    simp only [step] at hst
    split at hst
    ·rename_i f fi ca e1
     have hv:=hf.ev hy
     rw [e1] at hv
     simp only [VRel] at hv
     rcases hv with ⟨hsm,a',c',hev,r1,r2⟩|⟨_,_,_,_,_,hv,_⟩
     ·refine fin f _ (a'++Array.map a0.eval args++c') (by simpa [smallFn] using hsm) hst ?_ ?_
      ·simp only [Array.toList_append,Array.toList_map]
       exact (r1.append hargs).append r2
      ·simp [execOp,resolve,hev,Deferred.ofValue,invoke]
     ·cases hv
    ·rename_i r fi ca e1
     have hv:=hf.ev hy
     rw [e1] at hv
     simp only [VRel] at hv
     rcases hv with ⟨hsm,_⟩|⟨r',j,o',l,ts,e2,e3,e4,e5,hev,r1⟩
     ·cases hsm
     ·cases e2
      subst e3
      obtain ⟨fn,tmps,x',y',hrun,hround⟩:=(hcs _ _ h v h' hst).2 r rfl ρ w (Array.map a0.eval args) j o' (V.evs fr ys) fi l ts rfl hr e4 e5 r1 (by simpa using hargs)
      refine ⟨fun _ _=>trivial,?_⟩
      rw [Oper.semAt_eq _ _ _ hnd,hex]
      have he:(execOp a0.eval ⟨dst,.call ⟨.value x,args,argTypes⟩,type,pos,after,guard⟩).run P w=(Instr.yield l.c (Array.map a0.eval args)).run P w:=by
       simp [execOp,resolve,hev,Deferred.ofValue,invoke]
      rw [he,hrun]
      exact ⟨fun e=>(by cases e),roundW (hround.mono fun e w' ⟨cv,ρ',he,hp,hv⟩=>by subst he;exact k cv w' ρ' hp hv)⟩
    ·cases hst
   cases callee with
   |value x=>
    cases x with
    |func f=>
     simp only at hc
     split at hc
     ·rename_i fn hfn
      split at hc
      ·cases hc
      ·split at hc
       ·split at hc
        ·rename_i hfb
         cases hc
         simp only [step] at hs
         refine fin f _ (Array.map a0.eval args) hfb hs ?_ ?_
         ·simpa using hargs
         ·simp [execOp,resolve,Act.eval,Deferred.ofValue,invoke]
        ·cases hc
       ·split at hc
        ·rename_i hov
         cases hc
         simp only [step,pureV] at hs
         split at hs
         ·rename_i v1 hv1
          simp only [Option.some.injEq,Prod.mk.injEq] at hs
          obtain ⟨rfl,rfl⟩:=hs
          obtain ⟨cv,hrun,hcv⟩:=cmpStr_run (P:=P) (w:=w) hfn hov (cargs:=Array.map a0.eval args) (by simpa using hargs) hv1
          refine ⟨fun _ _=>trivial,?_⟩
          rw [Oper.semAt_eq _ _ _ hnd,hex]
          have he:(execOp a0.eval ⟨dst,.call ⟨.value (.func f),args,argTypes⟩,type,pos,after,guard⟩).run P w=(callFunc f (Array.map a0.eval args)).run P w:=by
           simp [execOp,resolve,Act.eval,Deferred.ofValue,invoke]
          rw [he,hrun]
          exact k cv w ρ (Post.refl hr) hcv
         ·cases hs
        ·cases hc
     ·cases hc
    |tmp t=>
     simp only [Option.map_eq_some_iff] at hc
     obtain ⟨y,hy,rfl⟩:=hc
     exact viaval _ y rfl hy hs
    |const t=>
     simp only [Option.map_eq_some_iff] at hc
     obtain ⟨y,hy,rfl⟩:=hc
     exact viaval _ y rfl hy hs
    |global t=>
     simp only [Option.map_eq_some_iff] at hc
     obtain ⟨y,hy,rfl⟩:=hc
     exact viaval _ y rfl hy hs
   |invoke r name=>
    simp only [Option.map_eq_some_iff] at hc
    obtain ⟨y,hy,rfl⟩:=hc
    simp only [step] at hs
    split at hs
    ·rename_i t x e1
     have hv:=hf.ev hy
     rw [e1] at hv
     simp only [VRel] at hv
     obtain ⟨xv,hev,rx⟩:=hv
     split at hs
     ·rename_i f r0 hm
      obtain ⟨hfb,hmm⟩:=hms t x name f r0 hm
      obtain ⟨⟨rv,hrun,rr⟩,_⟩:=hmm ρ xv w rx
      refine fin f _ (#[rv]++Array.map a0.eval args) hfb hs ?_ ?_
      ·simp only [Array.toList_append,Array.toList_map]
       exact .cons rr hargs
      ·simp only [execOp,resolve,Sem.run_bind,Sem.run_pure,Result.andThen_ok,invoke,hev]
       have hex:(Array.map a0.eval args).extract 0 args.size=Array.map a0.eval args:=by
        have:=Array.extract_size (xs:=Array.map a0.eval args)
        simp at this ⊢
       simp only [List.getElem?_toArray,Array.getElem?_append,Array.size_append]
       simp [callMethod]
       rw [hrun,hex]
       simp
     ·cases hs
    ·cases hs
   |builtin b=>exact absurd (fun c h=>⟨b,by cases h;rfl⟩) hcb
theorem FRel.put {ρ:Ren} {fr:List Val} {a:Act} (h:FRel ρ fr a) (dst:Option Tmp) {v:Val} {cv:Value} (hv:VRel ρ v cv):FRel ρ (setDst fr dst v) (a.put dst cv):=by
 cases dst with
 |none=>exact h
 |some d=>
  unfold FRel setDst Act.put
  simp only [Array.toList_setIfInBounds]
  exact VRels.set h d hv
theorem wanted_rel {ρ:Ren} {fr:List Val} {a:Act} (hf:FRel ρ fr a) {ops:Array Oper} {o:Oper} {g:Option (Nat×Bool)} (hg:cGuard ops o.guard=some g) {b:Bool} (e:wanted fr g=some b):Region.wanted o (yielded ops a.tmps)=b:=by
 unfold Region.wanted
 cases ho:o.guard with
 |none=>
  rw [ho] at hg
  simp only [cGuard,Option.some.injEq] at hg;subst hg
  simp only [wanted,Option.some.injEq] at e;subst e;rfl
 |some jw=>
  obtain ⟨j,want⟩:=jw
  rw [ho] at hg
  simp only [cGuard] at hg
  split at hg
  ·rename_i t ht
   simp only [Option.some.injEq] at hg;subst hg
   simp only [wanted] at e
   have hv:=hf.getD t
   simp only [yielded,ht,Option.bind_some]
   have hsz:fr.length=a.tmps.size:=by have:=hf.length;simpa using this.symm
   split at e
   ·rename_i b' hb
    simp only [Option.some.injEq] at e;subst e
    rw [hb] at hv
    simp only [VRel] at hv
    have hlt:t<a.tmps.size:=by
     rcases Nat.lt_or_ge t a.tmps.size with h|h
     ·exact h
     ·rw [List.getD_eq_getElem?_getD,List.getElem?_eq_none (by omega)] at hb;cases hb
    rw [Array.getD_eq_getD_getElem?] at hv
    rw [Array.getElem?_eq_getElem hlt] at hv ⊢
    simp only [Option.getD_some] at hv
    rw [hv]
    cases b'<;>cases want<;>rfl
   ·rename_i hb
    simp only [Option.some.injEq] at e;subst e
    rw [hb] at hv
    simp only [VRel] at hv
    rw [Array.getD_eq_getD_getElem?] at hv
    cases hq:a.tmps[t]? with
    |none=>cases want<;>rfl
    |some q=>
     rw [hq] at hv
     simp only [Option.getD_some] at hv
     subst hv
     cases want<;>rfl
   ·cases e
  ·cases hg
def OpsRel (P:Program) (ops:Array Oper):List Nat→List VOper→Prop
 |[],[]=>True
 |i::r,vo::vr=>(∃ o,ops[i]? =some o∧cOp P o=some vo.op∧vo.dst=o.dst∧cGuard ops o.guard=some vo.guard)∧OpsRel P ops r vr
 |_,_=>False
theorem runOps_wpT {P:Program} (hgd:TyOk P) {meth:TypeId→Val→String→Option (FuncId×Val)} (hms:MethSound P meth) {call:CallT} (hcs:CallSound P call) {ops:Array Oper} {Q:Exit→Act→World→Prop} {ro:Option Nat} {tl:List Nat}:
  ∀ (l:List Nat) (vl:List VOper) (fr fr':List Val) (h h':Heap) (ρ:Ren) (w:World) (a:Act),OpsRel P ops l vl→runOps meth call vl fr h=some (fr',h')→HRel ρ h w→FRel ρ fr a→
   (∀ a' w' ρ',Post ρ h w ρ' h' w'→FRel ρ' fr' a'→a'.defers=a.defers→wpOpsIn (W ro) 0 P ops Q tl a' w')→wpOpsIn (W ro) 0 P ops Q (l++tl) a w
 |[],[],fr,fr',h,h',ρ,w,a,_,hrun,hr,hf,k=>by
  simp only [runOps,Option.some.injEq,Prod.mk.injEq] at hrun
  obtain ⟨rfl,rfl⟩:=hrun
  exact k a w ρ (.refl hr) hf rfl
 |i::r,vo::vr,fr,fr',h,h',ρ,w,a,hrel,hrun,hr,hf,k=>by
  obtain ⟨⟨o,ho,hc,hd,hg⟩,hrel'⟩:=hrel
  simp only [runOps] at hrun
  simp only [List.cons_append,wpOpsIn,ho]
  split at hrun
  ·cases hrun
  ·rename_i hw
   rw [wanted_rel hf hg hw]
   simp only [Bool.false_eq_true,if_false]
   rw [←hd]
   refine ⟨fun _ _=>trivial,?_⟩
   exact runOps_wpT hgd hms hcs r vr _ fr' h h' ρ w _ hrel' hrun hr (hf.put vo.dst rel_undef) (fun a' w' ρ' h1 h2 h3=>k a' w' ρ' h1 h2 (h3.trans (by cases vo.dst<;>rfl)))
  ·rename_i hw
   rw [wanted_rel hf hg hw]
   simp only [if_true]
   split at hrun
   ·rename_i v h1 hst
    refine op_wp hgd hr hf hms hcs rfl hc hst fun cv w' ρ' hp hv=> ?_
    rw [←hd]
    exact runOps_wpT hgd hms hcs r vr _ fr' h1 h' ρ' w' _ hrel' hrun hp.hrel ((hf.mono hp.ext).put vo.dst hv) (fun a' w'' ρ'' h1 h2 h3=>k a' w'' ρ'' (hp.trans h1 hr) h2 (h3.trans (by cases vo.dst<;>rfl)))
   ·cases hrun
 |[],_::_,_,_,_,_,_,_,_,hrel,_,_,_,_=>by cases hrel
 |_::_,[],_,_,_,_,_,_,_,hrel,_,_,_,_=>by cases hrel
theorem runOps_wp {P:Program} (hgd:TyOk P) {meth:TypeId→Val→String→Option (FuncId×Val)} (hms:MethSound P meth) {call:CallT} (hcs:CallSound P call) {ops:Array Oper} {Q:Exit→Act→World→Prop} {ro:Option Nat}
  (l:List Nat) (vl:List VOper) (fr fr':List Val) (h h':Heap) (ρ:Ren) (w:World) (a:Act) (hrel:OpsRel P ops l vl) (hrun:runOps meth call vl fr h=some (fr',h')) (hr:HRel ρ h w) (hf:FRel ρ fr a)
  (k: ∀ a' w' ρ',Post ρ h w ρ' h' w'→FRel ρ' fr' a'→a'.defers=a.defers→Q .normal a' w'):wpOpsIn (W ro) 0 P ops Q l a w:=by
 have:=runOps_wpT (tl:=[]) (Q:=Q) (ro:=ro) hgd hms hcs l vl fr fr' h h' ρ w a hrel hrun hr hf fun a' w' ρ' p f d=>k a' w' ρ' p f d
 rwa [List.append_nil] at this
theorem cOps_get {P:Program}: ∀ {l:List Oper} {vs:List VOp},cOps P l=some vs→ ∀ (i:Nat) (o:Oper) (v:VOp),l[i]? =some o→vs[i]? =some v→cOp P o=some v
 |[],vs,h,i,o,v,h1,_=>by simp at h1
 |x::l,vs,h,i,o,v,h1,h2=>by
  simp only [cOps] at h
  split at h
  ·rename_i a r ha hr
   cases h
   cases i with
   |zero=>simp at h1 h2;subst h1 h2;exact ha
   |succ i=>exact cOps_get hr i o v (by simpa using h1) (by simpa using h2)
  ·cases h
theorem cOpers_rel {P:Program} {ops:Array Oper} {b:Array Nat} {ts:List Nat} {vs:List VOp} (hvs:cOps P ops.toList=some vs): ∀ (l:List Oper) (v:List VOp) (i:Nat) (vl:List VOper),ops.toList.drop i=l→vs.drop i=v→cOpers ops b ts l v i=some vl→OpsRel P ops (List.range' i l.length) vl
 |[],[],i,vl,_,_,h=>by
  simp only [cOpers,Option.some.injEq] at h;subst h
  simp [OpsRel]
 |o::r,v::rv,i,vl,h1,h2,h=>by
  simp only [cOpers] at h
  split at h
  ·rename_i g l hg hl
   cases h
   have e1:ops.toList[i]? =some o:=by
    have:(ops.toList.drop i)[0]? =some o:=by rw [h1];rfl
    simpa using this
   have e2:vs[i]? =some v:=by
    have:(vs.drop i)[0]? =some v:=by rw [h2];rfl
    simpa using this
   simp only [List.length_cons,List.range'_succ,OpsRel]
   refine ⟨⟨o,by rw [←Array.getElem?_toList];exact e1,cOps_get hvs i o v e1 e2,rfl,hg⟩,?_⟩
   refine cOpers_rel hvs r rv (i+1) l ?_ ?_ hl
   ·rw [←List.drop_drop,h1];rfl
   ·rw [←List.drop_drop,h2];rfl
  ·cases h
 |[],_::_,_,_,_,_,h=>by simp [cOpers] at h
 |_::_,[],_,_,_,_,h=>by simp [cOpers] at h
def Ex.conv:Ex→Exit
 | .normal =>.normal
 | .exit i=>.exit i
 | .ret =>.ret
structure FnOk (P:Program) (f:FuncId) (fn:Func):Prop where
 at_:P.funcs[f]? =some fn
 body:fn.body.isSome=true
 name:(fn.name== "runtime.NumGoroutine")=false
structure EnvOk (P:Program) (E:Env):Prop where
 meth:MethSound P E.meth
 fns: ∀ f vf,E.fns f=some vf→f<big∧ ∃ fn b,FnOk P f fn∧cFn P b fn=some vf∧vf.body.known E
 prims: ∀ f p,E.prims f=some p→f<big∧(∃ fn,FnOk P f fn)∧ ∀ args h v h',p args h=some (v,h')→
  ∀ ρ w (cargs:Array Value),HRel ρ h w→VRels ρ args cargs.toList→Calls P f cargs w (fun e w'=> ∃ cv ρ',e=.returned cv∧Post ρ h w ρ' h' w'∧VRel ρ' v cv)
 dfr: ∀ f df,E.dfr f=some df→f<big∧ ∃ fn,FnOk P f fn∧cDfn P fn=some df
 ty:TyOk P
 rd: ∀ r ps x y,Gd.rd r ps x y↔ ∃ rd,E.rnd r=some rd∧cRnd P ps x y=some rd
theorem run_loadVar_rel {P:Program} {ρ:Ren} {h:Heap} {w:World} (hr:HRel ρ h w) {t:TypeId} {d:TypeDesc} (ht:P.underlying t=some d) {b o:Nat} {c:List Val} (e:h.load b o (P.cellsOf t)=some c) {l:Loc} (hl:ρ b=some l) {x:Val}
  (hx:(aggType P t=true∧x=.agg c)∨(aggType P t=false∧c=[x])): ∃ cv,(loadVar t ⟨l.c,l.s+o,none⟩).run P w=.ok cv w∧VRel ρ x cv:=by
 obtain ⟨m,hm,hcell⟩:=hr.load e hl
 obtain ⟨i,hi⟩:=info_of_underlying ht
 have hlen:m.length=P.cellsOf t:=by
  rw [hm.length]
  obtain ⟨cs,_,h2,rfl⟩:=Heap.load_some e
  simp;omega
 rcases hx with ⟨ha,rfl⟩|⟨ha,rfl⟩
 ·have hrun:=run_loadCells_of (P:=P) hcell
  rw [hlen] at hrun
  exact ⟨.agg m.toArray,by simp only [loadVar,Sem.run_bind,Sem.run_pure,Result.andThen_ok,run_isAgg_of ht,ha,if_true,run_sizeOf_of hi,hrun],by simp only [VRel];exact ⟨_,rfl,hm⟩⟩
 ·cases m with
  |nil=>exact absurd hm.length (by simp)
  |cons v m=>
   have h0:=hcell 0 v (by simp)
   simp only [Addr.add_none,Nat.add_zero] at h0
   simp only [VRels] at hm
   obtain ⟨y,s,he,hy,_⟩:=hm
   cases he
   exact ⟨v,by simp only [loadVar,Sem.run_bind,Result.andThen_ok,run_isAgg_of ht,ha,Bool.false_eq_true,if_false,run_load,h0],hy⟩
theorem results_rel {P:Program} {ρ:Ren} {h:Heap} {w:World} (hr:HRel ρ h w) {fr:List Val} {a:Act} (hf:FRel ρ fr a): ∀ (rs:List ResultVar) (l:List Val),(rs.all fun r=>match r with| .tmp _=>true| .cell _ t=>(P.underlying t).isSome)=true→readResults fr h (cResults P rs)=some l→
    ∃ m : List Value, (rs.mapM (m := Sem) fun
      | .tmp t=>pure (a.tmps.getD t Go.undef)
      | .cell x t=>do loadVar t (←asAddr (a.tmps.getD x Go.undef))).run P w=.ok m w∧VRels ρ l m
  |[],l,_,h=>by
    simp only [cResults,readResults,Option.some.injEq] at h;subst h
    exact ⟨[],by simp,.nil⟩
  | .tmp t::r,l,hall,h=>by
    simp only [List.all_cons,Bool.true_and] at hall
    simp only [cResults,readResults] at h
    split at h
    · rename_i l' hl
      cases h
      obtain ⟨m,h1,h2⟩:=results_rel hr hf r l' hall hl
      exact ⟨_::m,by rw [List.mapM_cons];simp only [Sem.run_bind,Sem.run_pure,Result.andThen_ok];rw [h1];rfl,.cons (hf.getD t) h2⟩
    · cases h
  | .cell x t::r,l,hall,h=>by
    simp only [List.all_cons,Bool.and_eq_true] at hall
    obtain ⟨d,hd⟩:=Option.isSome_iff_exists.1 hall.1
    simp only [cResults,readResults] at h
    split at h
    · rename_i b o hb
      have hv:=hf.getD x
      rw [hb] at hv
      simp only [VRel] at hv
      obtain ⟨L,hL,hev⟩:=hv
      split at h
      · rename_i c l' hc hl
        obtain ⟨m,h1,h2⟩:=results_rel hr hf r l' hall.2 hl
        have hone : ∀ y, ((aggType P t = true ∧ y = .agg c) ∨ (aggType P t = false ∧ c = [y])) → ∃ m : List Value, (( .cell x t :: r).mapM (m := Sem) fun
            | .tmp t=>pure (a.tmps.getD t Go.undef)
            | .cell x t=>do loadVar t (←asAddr (a.tmps.getD x Go.undef))).run P w=.ok m w∧VRels ρ (y::l') m:=by
          intro y hy
          obtain ⟨cv,hrun,rel⟩:=run_loadVar_rel (P:=P) hr hd hc hL hy
          refine ⟨cv::m,?_,.cons rel h2⟩
          have hA:(asAddr (a.tmps.getD x Go.undef)).run P w=.ok ⟨L.c,L.s+o,none⟩ w:=by rw [hev];rfl
          rw [List.mapM_cons]
          simp only [Sem.run_bind,hA,Sem.run_pure,Result.andThen_ok,hrun]
          rw [h1];rfl
        split at h
        · rename_i ha
          cases h
          exact hone _ (.inl ⟨ha,rfl⟩)
        · rename_i ha
          split at h
          · cases h
            exact hone _ (.inr ⟨by simpa using ha,rfl⟩)
          · cases h
      · cases h
    · cases h
end Go.V
end
section
namespace Go.V
structure HExt (h h':Heap):Prop where
 hid:h'.hid=h.hid
 floor:h'.floor=h.floor
 base:h'.base=h.base
 next:h.next≤h'.next
 live: ∀ b,b<h.next→h.t.get b=none→h'.t.get b=none
 keep: ∀ b,b<h.floor→b<h.next→h'.t.get b=h.t.get b
 low:(∀ b,h.next≤b→h.t.get b=none)→ ∀ b,h'.next≤b→h'.t.get b=none
theorem HExt.refl (h:Heap):HExt h h:=⟨rfl,rfl,rfl,Nat.le_refl _,fun _ _ h=>h,fun _ _ _=>rfl,fun h=>h⟩
theorem HExt.trans {a b c:Heap} (x:HExt a b) (y:HExt b c):HExt a c:=
  ⟨y.hid.trans x.hid,y.floor.trans x.floor,y.base.trans x.base,Nat.le_trans x.next y.next,
   fun i hi h=>y.live i (Nat.lt_of_lt_of_le hi x.next) (x.live i hi h),
   fun i hi hn=>(y.keep i (by rw [x.floor];exact hi) (Nat.lt_of_lt_of_le hn x.next)).trans (x.keep i hi hn),
   fun h=>y.low (x.low h)⟩
theorem HExt.new (h:Heap) (x:Blk):HExt h (h.new x).2:=by
 have hg: ∀ b,(h.new x).2.t.get b=if b=h.next then some x else h.t.get b:=by
  intro b
  show (h.t.set (h.next+1) h.next (some x)).get b=_
  rw [Tr.get_set _ _ _ _ _ (by omega)]
 refine ⟨rfl,rfl,rfl,by simp [Heap.new,Heap.put],?_,?_,?_⟩
 ·intro b hb e;rw [hg,if_neg (by omega)];exact e
 ·intro b _ hn;rw [hg,if_neg (by omega)]
 ·intro hl b hb
  simp only [Heap.new,Heap.put] at hb
  rw [hg,if_neg (by omega)]
  exact hl b (by omega)
theorem HExt.put {h:Heap} {b:Nat} (x:Option Blk) (hf:h.floor≤b) (hg:h.t.get b≠none∨x=none):HExt h (h.put b x):=by
 have hq: ∀ j,(h.put b x).t.get j=if j=b then x else h.t.get j:=by
  intro j
  show (h.t.set (b+1) b x).get j=_
  rw [Tr.get_set _ _ _ _ _ (by omega)]
 refine ⟨rfl,rfl,rfl,Nat.le_refl _,?_,?_,?_⟩
 ·intro j hj e
  rw [hq]
  split
  ·subst j
   rcases hg with hg|hg
   ·exact absurd e hg
   ·exact hg
  ·exact e
 ·intro j hj _;rw [hq,if_neg (by omega)]
 ·intro hl j hj
  rw [hq]
  split
  ·subst j
   rcases hg with hg|hg
   ·exact absurd (hl b hj) hg
   ·exact hg
  ·exact hl j hj
theorem HExt.store {h h':Heap} {b o:Nat} {vs:List Val} (e:h.store b o vs=some h'):HExt h h':=by
 unfold Heap.store at e
 split at e
 ·rename_i hf
  split at e
  ·rename_i cs hg
   split at e
   ·cases e
    exact .put _ hf (.inl (by rw [Heap.get_t hg];simp))
   ·cases e
  ·cases e
 ·cases e
theorem HExt.appendN {h h':Heap} {size bytes n:Nat} {x v:Val} {new:List Val} (e:appendN h size bytes x n new=some (v,h')):HExt h h':=by
 unfold V.appendN at e
 split at e
 ·split at e
  ·cases e;exact .refl _
  ·split at e
   ·cases e;exact .new _ _
   ·cases e
 ·split at e
  ·split at e
   ·cases e;exact .refl _
   ·split at e
    ·rename_i hs;cases e;exact .store hs
    ·cases e
  ·split at e
   ·split at e
    ·cases e
    ·split at e
     ·cases e;exact .new _ _
     ·split at e
      ·rename_i hk
       cases e
       exact (HExt.put (h:=h) none hk.1 (.inr rfl)).trans (.new _ _)
      ·cases e
   ·cases e
 ·split at e
  ·cases e;exact .refl _
  ·split at e
   ·cases e;exact .new _ _
   ·cases e
 ·cases e
def CallExt (call:CallT):Prop:= ∀ f args h v h',call f args h=some (v,h')→HExt h h'
theorem step_ext {meth:TypeId→Val→String→Option (FuncId×Val)} {call:CallT} (hce:CallExt call) {fr:List Val} {h h':Heap} {vo:VOp} {v:Val} (e:step meth call fr h vo=some (v,h')):HExt h h':=by
 cases vo<;>simp only [step,pureV] at e
 case call f args=>exact hce _ _ _ _ _ e
 case callv x args=>
  split at e
  ·exact hce _ _ _ _ _ e
  ·exact hce _ _ _ _ _ e
  ·cases e
 case invoke r n args=>
  split at e
  ·split at e
   ·exact hce _ _ _ _ _ e
   ·cases e
  ·cases e
 case append size bytes x y=>
  unfold append at e
  split at e
  ·cases e
  ·split at e
   ·cases e
   ·exact .appendN e
 case appendZ size bytes z x y=>
  split at e
  ·split at e
   ·exact .appendN e
   ·cases e
  ·cases e
 case clear z x=>
  split at e
  ·cases e;exact .refl _
  ·split at e
   ·cases e;exact .refl _
   ·split at e
    ·rename_i hs;cases e;exact .store hs
    ·cases e
  ·cases e;exact .refl _
  ·split at e
   ·rename_i hf
    split at e
    ·rename_i es hg
     cases e
     exact .put _ hf (.inl (by rw [Heap.get_t hg];simp))
    ·cases e
   ·cases e
  ·cases e
 case mapUpdate es m k v=>
  split at e
  ·split at e
   ·rename_i hf
    split at e
    ·rename_i es' hg
     split at e
     ·cases e
      exact .put _ hf.1 (.inl (by rw [Heap.get_t hg];simp))
     ·cases e
    ·cases e
   ·cases e
  ·cases e
 all_goals
  (repeat' split at e)<;>first
   |(cases e;done)
   |(cases e;exact .refl _)
   |(cases e;exact .new _ _)
   |(rename_i hs;cases e;exact .store hs)
theorem HExt.free {h h':Heap} {A:List (Nat×Nat)} (x:HExt {h with hid:=A,floor:=h.next} h'):HExt h {h' with hid:=h.hid,floor:=h.floor}:=by
 refine ⟨rfl,rfl,x.base,x.next,x.live,?_,x.low⟩
 intro b _ hn
 exact x.keep b hn hn
theorem runOps_ext {meth:TypeId→Val→String→Option (FuncId×Val)} {call:CallT} (hce:CallExt call): ∀ (l:List VOper) (fr fr':List Val) (h h':Heap),runOps meth call l fr h=some (fr',h')→HExt h h'
 |[],fr,fr',h,h',e=>by
  simp only [runOps,Option.some.injEq,Prod.mk.injEq] at e
  rw [←e.2];exact .refl _
 |o::r,fr,fr',h,h',e=>by
  simp only [runOps] at e
  split at e
  ·cases e
  ·exact runOps_ext hce r _ _ _ _ e
  ·split at e
   ·rename_i hs
    exact (step_ext hce hs).trans (runOps_ext hce r _ _ _ _ e)
   ·cases e
theorem dropL_ext: ∀ {bs:List Nat} {h:Heap},(∀ b∈bs,h.floor≤b)→HExt h (dropL bs h)
 |[],h,_=>.refl _
 |b::r,h,hf=>(HExt.put none (hf b (List.mem_cons_self ..)) (.inr rfl)).trans (dropL_ext fun c hc=>hf c (List.mem_cons_of_mem _ hc))
theorem wrEnd_ext {o:VOp} {bs:List Nat} {h:Heap} (hf: ∀ b∈bs,h.floor≤b):HExt h (wrEnd o bs h):=by
 unfold wrEnd
 split
 ·exact dropL_ext hf
 ·exact .refl _
theorem HExt.rehid {h h':Heap} {A:List (Nat×Nat)} (x:HExt {h with hid:=A} h'):HExt h {h' with hid:=h.hid}:=
 ⟨rfl,x.floor,x.base,x.next,x.live,x.keep,x.low⟩
theorem wrOk_get {all:List VOper} {hide:List Nat} {fr:List Val} {bs:List Nat} {h hv:Heap} (e:wrOk all hide fr bs h hv=true):(∀ b∈bs,h.floor≤b∧ ∃ x,hv.get b=some x)∧ ∀ i∈hide,unseen all fr bs i=true:=by
 unfold wrOk at e
 simp only [Bool.and_eq_true,List.all_eq_true,decide_eq_true_eq] at e
 exact ⟨fun b hb=>⟨(e.1 b hb).1,Option.isSome_iff_exists.1 (e.1 b hb).2⟩,e.2⟩
theorem runDraw_ext {meth:TypeId→Val→String→Option (FuncId×Val)} {call:CallT} (hce:CallExt call) {all:List VOper}: ∀ (l:List VOper) (rs:List (Nat×Nat)) (fr fr':List Val) (h h':Heap),runDraw meth call all l rs fr h=some (fr',h')→HExt h h'
 |[],rs,fr,fr',h,h',e=>by
  simp only [runDraw,Option.some.injEq,Prod.mk.injEq] at e
  rw [←e.2];exact .refl _
 |o::r,rs,fr,fr',h,h',e=>by
  simp only [runDraw] at e
  split at e
  ·cases e
  ·exact runDraw_ext hce r _ _ _ _ _ e
  ·split at e
   ·split at e
    ·rename_i hs
     exact (step_ext hce hs).trans (runDraw_ext hce r _ _ _ _ _ e)
    ·cases e
   ·split at e
    ·split at e
     ·rename_i hs
      exact (step_ext hce hs).free.trans (runDraw_ext hce r _ _ _ _ _ e)
     ·cases e
    ·split at e
     ·cases e
     ·split at e
      ·rename_i hok
       split at e
       ·rename_i hs
        have x:=(step_ext hce hs).rehid
        refine (x.trans (wrEnd_ext fun b hb=> ?_)).trans (runDraw_ext hce r _ _ _ _ _ e)
        rw [x.floor]
        exact ((wrOk_get hok).1 b hb).1
       ·cases e
      ·cases e
def PrimsExt (E:Env):Prop:= ∀ f p,E.prims f=some p→ ∀ args h v h',p args h=some (v,h')→HExt h h'
theorem round_ext {ex:VC→List Val→Heap→Option (Ex×List Val×Heap)} (ih: ∀ (c:VC) (fr fr':List Val) (h h':Heap) (e:Ex),ex c fr h=some (e,fr',h')→HExt h h') {rd:Rnd} {j:Nat} {vals fr:List Val} {h h':Heap} {v:Val} (e:roundF ex rd j vals fr h=some (v,h')):HExt h h':=by
 unfold roundF at e
 split at e
 ·rename_i hf
  split at e
  ·split at e
   ·rename_i h1 e1
    have x1:=ih _ _ _ _ _ _ e1
    have hf1:h1.floor≤j:=by rw [x1.floor];exact hf.2
    split at e
    ·rename_i hg
     split at e
     ·rename_i h2 e2
      split at e
      ·rename_i hg2
       cases e
       have x2:HExt h1 (h1.put j (some (.rnd 1))):=.put _ hf1 (.inl (by rw [Heap.get_t hg];simp))
       have x3:=ih _ _ _ _ _ _ e2
       have hf2:h2.floor≤j:=by rw [x3.floor];exact hf1
       exact ((x1.trans x2).trans x3).trans (.put _ hf2 (.inl (by rw [Heap.get_t hg2];simp)))
      ·cases e
     ·cases e
    ·cases e
   ·cases e
  ·cases e
 ·cases e
theorem defer_ext {E:Env} {ex:VC→List Val→Heap→Option (Ex×List Val×Heap)} (ih: ∀ (c:VC) (fr fr':List Val) (h h':Heap) (e:Ex),ex c fr h=some (e,fr',h')→HExt h h') {df:DFn} {args:List Val} {h h':Heap} {v:Val} (e:deferF E ex df args h=some (v,h')):HExt h h':=by
 unfold deferF at e
 split at e
 ·rename_i e1
  split at e
  ·split at e
   ·split at e
    ·cases e
    ·rename_i e2
     split at e
     ·cases e
     ·rename_i e3
      split at e
      ·cases e;exact ((ih _ _ _ _ _ _ e1).trans (ih _ _ _ _ _ _ e2)).trans (ih _ _ _ _ _ _ e3)
      ·cases e
     ·cases e
    ·cases e
   ·cases e
  ·cases e
 ·cases e
theorem endRange_ext {fr fr':List Val} {j:Nat} {h h':Heap} {ex:Ex} (hf:h.floor≤j) (e:endRange fr j h=some (ex,fr',h')):HExt h h':=by
 unfold endRange at e
 split at e<;>(try (cases e;done))<;>(rename_i hg;cases e;exact .put _ hf (.inl (by rw [Heap.get_t hg];simp)))
theorem exec_ext {E:Env} (hp:PrimsExt E): ∀ (n:Nat),(∀ (c:VC) (fr fr':List Val) (h h':Heap) (ex:Ex),exec E n c fr h=some (ex,fr',h')→HExt h h')∧CallExt (callF E (exec E n)):=by
 have calls: ∀ n,(∀ (c:VC) (fr fr':List Val) (h h':Heap) (ex:Ex),exec E n c fr h=some (ex,fr',h')→HExt h h')→CallExt (callF E (exec E n)):=by
  intro n ih f args h v h' e
  unfold callF at e
  split at e
  ·rename_i p hpp
   exact hp f p hpp args h v h' e
  ·split at e
   ·split at e
    ·cases e
    ·rename_i hex
     split at e
     ·cases e;exact ih _ _ _ _ _ _ hex
     ·cases e
    ·cases e
   ·split at e
    ·split at e
     ·exact defer_ext ih e
     ·cases e
    ·split at e
     ·exact round_ext ih e
     ·cases e
 intro n
 induction n with
 |zero=>
  have h0: ∀ (c:VC) (fr fr':List Val) (h h':Heap) (ex:Ex),exec E 0 c fr h=some (ex,fr',h')→HExt h h':=by
   intro c fr fr' h h' ex e;simp [exec] at e
  exact ⟨h0,calls 0 h0⟩
 |succ n ih=>
  obtain ⟨ihx,ihc⟩:=ih
  have hx: ∀ (c:VC) (fr fr':List Val) (h h':Heap) (ex:Ex),exec E (n+1) c fr h=some (ex,fr',h')→HExt h h':=by
   intro c fr fr' h h' ex e
   cases c<;>simp only [exec] at e
   case skip=>cases e;exact .refl _
   case region ops=>
    split at e
    ·rename_i hr;cases e;exact runOps_ext ihc _ _ _ _ _ hr
    ·cases e
   case draw ops=>
    split at e
    ·rename_i hr;cases e;exact runDraw_ext ihc _ _ _ _ _ _ hr
    ·cases e
   case seq a b=>
    split at e
    ·rename_i h1;exact (ihx _ _ _ _ _ _ h1).trans (ihx _ _ _ _ _ _ e)
    ·exact ihx _ _ _ _ _ _ e
   case cond c a b=>
    split at e
    ·exact ihx _ _ _ _ _ _ e
    ·exact ihx _ _ _ _ _ _ e
    ·cases e
   case block i a=>
    split at e
    ·rename_i h1
     split at e<;>cases e<;>exact ihx _ _ _ _ _ _ h1
    ·exact ihx _ _ _ _ _ _ e
   case loop a=>
    split at e
    ·rename_i h1;exact (ihx _ _ _ _ _ _ h1).trans (ihx _ _ _ _ _ _ e)
    ·exact ihx _ _ _ _ _ _ e
   case range x r ps a b=>
    split at e
    ·split at e
     ·rename_i hcl
      split at e
      ·rename_i hf
       exact ((HExt.new h (.rnd 0)).trans (ihc _ _ _ _ _ hcl)).trans (endRange_ext hf e)
      ·cases e
     ·cases e
    ·cases e
   case exit i=>cases e;exact .refl _
   case ret=>cases e;exact .refl _
  exact ⟨hx,calls (n+1) hx⟩
theorem step_blind {meth:TypeId→Val→String→Option (FuncId×Val)} {call:CallT} {fr:List Val} {h h':Heap} {vo:VOp} {v:Val} (hk:vo.kind≤1) (e:step meth call fr h vo=some (v,h')) (A:List (Nat×Nat)) (F:Nat):
  step meth call fr {h with hid:=A,floor:=F} vo=some (v,{h' with hid:=A,floor:=F}):=by
 cases vo<;>simp only [VOp.kind] at hk<;>(try omega)<;>simp only [step,pureV] at e ⊢ <;>(repeat' split at e)<;>(try (cases e;done))<;>cases e<;>simp_all [Heap.new,Heap.put]
theorem get_hid {h:Heap} {A:List (Nat×Nat)} {b:Nat} (hb:({h with hid:=A++h.hid}:Heap).hidden b=h.hidden b):({h with hid:=A++h.hid}:Heap).get b=h.get b:=by
 unfold Heap.get
 rw [hb]
theorem hid_app {h:Heap} {A:List (Nat×Nat)} {b:Nat} (hb:(A.any fun r=>r.1≤b&&b<r.2)=false):({h with hid:=A++h.hid}:Heap).hidden b=h.hidden b:=by
 unfold Heap.hidden
 rw [List.any_append,hb,Bool.false_or]
theorem put_get' (h:Heap) (b:Nat) (x:Option Blk) (j:Nat):(h.put b x).t.get j=if j=b then x else h.t.get j:=by
 show (h.t.set (b+1) b x).get j=_
 rw [Tr.get_set _ _ _ _ _ (by omega)]
theorem new_get' (h:Heap) (x:Blk) (j:Nat):(h.new x).2.t.get j=if j=h.next then some x else h.t.get j:=put_get' h h.next (some x) j
theorem wr_keeps {meth:TypeId→Val→String→Option (FuncId×Val)} {call:CallT} {fr:List Val} {h h':Heap} {vo:VOp} {v:Val} {bs:List Nat} (hw:wrBlocks fr vo=some bs) (hs:step meth call fr h vo=some (v,h')): ∀ b,b<h.next→b ∉ bs→h'.t.get b=h.t.get b:=by
 intro b hb hn
 cases vo<;>simp only [wrBlocks] at hw<;>try (cases hw;done)
 case store n x y=>
  split at hw
  ·rename_i c o hx
   cases hw
   simp only [step,hx] at hs
   split at hs
   ·split at hs
    ·rename_i h2 hst
     cases hs
     unfold Heap.store at hst
     split at hst
     ·split at hst
      ·split at hst
       ·cases hst
        rw [put_get',if_neg (by simpa using hn)]
       ·cases hst
      ·cases hst
     ·cases hst
    ·cases hs
   ·cases hs
  ·cases hw
 case append size bytes x y=>
  split at hw
  ·rename_i c o len cap ls s o2 len2 cap2 ls2 hx hy
   have hm:c∈bs∧s∈bs:=by
    split at hw
    ·cases hw;simp
    ·split at hw
     ·cases hw;simp
     ·cases hw
   have hn1:b≠c:=fun e=>hn (e▸hm.1)
   focus
    simp only [step,hx,hy,append,lenVal] at hs
    split at hs
    ·cases hs
    ·rename_i new _
     simp only [appendN] at hs
     split at hs
     ·split at hs
      ·cases hs;rfl
      ·split at hs
       ·rename_i h2 hst
        cases hs
        unfold Heap.store at hst
        split at hst
        ·split at hst
         ·split at hst
          ·cases hst
           rw [put_get',if_neg hn1]
          ·cases hst
         ·cases hst
        ·cases hst
       ·cases hs
     ·split at hs
      ·split at hs
       ·cases hs
       ·split at hs
        ·cases hs
         rw [new_get',if_neg (by omega)]
        ·split at hs
         ·cases hs
          rw [new_get',if_neg (by show b≠h.next;omega),put_get',if_neg hn1]
         ·cases hs
      ·cases hs
  ·cases hw
theorem dropL_get: ∀ {bs:List Nat} {h:Heap} {b:Nat},(dropL bs h).t.get b=if b∈bs then none else h.t.get b
 |[],h,b=>by simp [dropL]
 |c::r,h,b=>by
  rw [dropL,dropL_get,put_get']
  by_cases e:b=c
  ·subst e;simp
  ·simp [e]
theorem dropL_same: ∀ {bs:List Nat} {h:Heap},(dropL bs h).next =h.next∧(dropL bs h).hid =h.hid∧(dropL bs h).floor =h.floor∧(dropL bs h).base =h.base
 |[],h=>⟨rfl,rfl,rfl,rfl⟩
 |c::r,h=>by rw [dropL];exact dropL_same
theorem wrEnd_same {o:VOp} {bs:List Nat} {h:Heap}:(wrEnd o bs h).next =h.next∧(wrEnd o bs h).hid =h.hid∧(wrEnd o bs h).floor =h.floor∧(wrEnd o bs h).base =h.base:=by
 unfold wrEnd
 split
 ·exact dropL_same
 ·exact ⟨rfl,rfl,rfl,rfl⟩
theorem wrEnd_get {o:VOp} {bs:List Nat} {h:Heap} {b:Nat} (hb:b ∉ bs):(wrEnd o bs h).t.get b=h.t.get b:=by
 unfold wrEnd
 split
 ·rw [dropL_get,if_neg hb]
 ·rfl
theorem wr_after {meth:TypeId→Val→String→Option (FuncId×Val)} {call:CallT} {fr:List Val} {hv h h':Heap} {vo:VOp} {v:Val} {bs:List Nat} (hw:wrBlocks fr vo=some bs) {b:Nat} (hb:b∈bs):
  ((wrRange vo bs h (wrEnd vo bs h')).1≤b∧b<(wrRange vo bs h (wrEnd vo bs h')).2)∨(wrEnd vo bs h').t.get b=none:=by
 cases vo<;>simp only [wrBlocks] at hw<;>try (cases hw;done)
 case store n x y=>
  split at hw
  ·cases hw
   simp only [List.mem_cons,List.not_mem_nil,or_false] at hb
   subst hb
   exact .inl ⟨Nat.le_refl _,Nat.lt_succ_self _⟩
  ·cases hw
 case append size bytes x y=>
  right
  show (dropL bs h').t.get b=none
  rw [dropL_get,if_pos hb]
theorem wr_made {meth:TypeId→Val→String→Option (FuncId×Val)} {call:CallT} {fr:List Val} {h h':Heap} {vo:VOp} {v:Val} {bs:List Nat} {A:List (Nat×Nat)} (hw:wrBlocks fr vo=some bs) (hs:step meth call fr {h with hid:=A} vo=some (v,h')) {g:Heap} (hg:g.next=h'.next):
  g.next=h.next∨wrRange vo bs h g=(h.next,g.next):=by
 cases vo<;>simp only [wrBlocks] at hw<;>try (cases hw;done)
 case store n x y=>
  left
  split at hw
  ·rename_i c o hx
   cases hw
   simp only [step,hx] at hs
   split at hs
   ·split at hs
    ·rename_i h2 hst
     cases hs
     unfold Heap.store at hst
     split at hst
     ·split at hst
      ·split at hst
       ·cases hst;exact hg
       ·cases hst
      ·cases hst
     ·cases hst
    ·cases hs
   ·cases hs
  ·cases hw
 case append size bytes x y=>exact .inr rfl
theorem load_hid {h:Heap} {A:List (Nat×Nat)} {b o n:Nat} (hb:(A.any fun r=>r.1≤b&&b<r.2)=false):({h with hid:=A++h.hid}:Heap).load b o n=h.load b o n:=by
 unfold Heap.load
 rw [get_hid (hid_app hb)]
theorem ends_hid {h:Heap} {A:List (Nat×Nat)} {b n:Nat} (hb:(A.any fun r=>r.1≤b&&b<r.2)=false):({h with hid:=A++h.hid}:Heap).endsBy b n=h.endsBy b n:=by
 unfold Heap.endsBy
 rw [get_hid (hid_app hb)]
theorem store_hid {h:Heap} {A:List (Nat×Nat)} {b o:Nat} {vs:List Val} (hb:(A.any fun r=>r.1≤b&&b<r.2)=false) {h':Heap} (e:h.store b o vs=some h'):({h with hid:=A++h.hid}:Heap).store b o vs=some {h' with hid:=A++h.hid}:=by
 unfold Heap.store at e ⊢
 rw [get_hid (hid_app hb)]
 split at e
 ·rename_i hf
  rw [if_pos hf]
  split at e
  ·rename_i c hc
   try rw [hc]
   try simp only
   split at e
   ·rename_i h2
    rw [if_pos h2]
    cases e;rfl
   ·cases e
  ·cases e
 ·cases e
theorem wr_narrow {meth:TypeId→Val→String→Option (FuncId×Val)} {call:CallT} {fr:List Val} {h h':Heap} {vo:VOp} {v:Val} {bs:List Nat} (hw:wrBlocks fr vo=some bs) (hs:step meth call fr h vo=some (v,h')) {A:List (Nat×Nat)} (hA: ∀ b∈bs,(A.any fun r=>r.1≤b&&b<r.2)=false):
  step meth call fr {h with hid:=A++h.hid} vo=some (v,{h' with hid:=A++h.hid}):=by
 cases vo<;>simp only [wrBlocks] at hw<;>try (cases hw;done)
 case store n x y=>
  split at hw
  ·rename_i c o hx
   cases hw
   simp only [step,hx] at hs ⊢
   split at hs
   ·rename_i h1
    rw [if_pos h1]
    split at hs
    ·rename_i h2 hst
     cases hs
     rw [store_hid (hA c (List.mem_cons_self ..)) hst]
    ·cases hs
   ·cases hs
  ·cases hw
 case append size bytes x y=>
  split at hw
  ·rename_i c o len cap ls s o2 len2 cap2 ls2 hx hy
   have hm:c∈bs∧s∈bs:=by
    split at hw
    ·cases hw;simp
    ·split at hw
     ·cases hw;simp
     ·cases hw
   have hc:=hA c hm.1
   have hsA:=hA s hm.2
   focus
    simp only [step,hx,hy,append,lenVal] at hs ⊢
    have f1: ∀ n,firstCells ({h with hid:=A++h.hid}:Heap) size n (.slice s o2 len2 cap2 ls2)=firstCells h size n (.slice s o2 len2 cap2 ls2):=by
     intro n
     simp only [firstCells,load_hid hsA]
    have f2: ∀ n,firstCells ({h with hid:=A++h.hid}:Heap) size n (.slice c o len cap ls)=firstCells h size n (.slice c o len cap ls):=by
     intro n
     simp only [firstCells,load_hid hc]
    rw [f1]
    split at hs
    ·cases hs
    ·rename_i new hnew
     try rw [hnew]
     try simp only
     simp only [appendN] at hs ⊢
     split at hs
     ·rename_i q1
      rw [if_pos q1]
      split at hs
      ·rename_i q2
       rw [if_pos q2]
       cases hs;rfl
      ·rename_i q2
       rw [if_neg q2]
       split at hs
       ·rename_i h2 hst
        cases hs
        rw [store_hid hc hst]
       ·cases hs
     ·rename_i q1
      rw [if_neg q1]
      split at hs
      ·rename_i q2
       rw [if_pos q2,f2]
       split at hs
       ·cases hs
       ·rename_i old hold
        try rw [hold]
        try simp only
        split at hs
        ·rename_i q3
         rw [if_pos q3]
         cases hs;rfl
        ·rename_i q3
         rw [if_neg q3]
         rw [ends_hid hc]
         split at hs
         ·rename_i q4
          rw [if_pos q4]
          cases hs;rfl
         ·cases hs
      ·cases hs
  ·cases hw
theorem load_narrow {meth:TypeId→Val→String→Option (FuncId×Val)} {call:CallT} {fr:List Val} {h h':Heap} {agg:Bool} {n:Nat} {x:Opd} {v:Val} {c o:Nat} (hx:ev fr x=.ptr c o) (hs:step meth call fr h (.load agg n x)=some (v,h')) {A:List (Nat×Nat)} (hA:(A.any fun r=>r.1≤c&&c<r.2)=false):
  h'=h∧step meth call fr {h with hid:=A++h.hid} (.load agg n x)=some (v,{h with hid:=A++h.hid}):=by
 simp only [step,hx,load_hid hA] at hs ⊢
 split at hs
 ·rename_i l hl
  try rw [hl]
  try simp only
  split at hs
  ·rename_i q
   rw [if_pos q]
   cases hs
   exact ⟨rfl,rfl⟩
  ·rename_i q
   rw [if_neg q]
   split at hs
   ·cases hs
    exact ⟨rfl,rfl⟩
   ·cases hs
 ·cases hs
def gaps:Nat→List Nat→Nat→List (Nat×Nat)
 |f,[],nx=>[(f,nx)]
 |f,b::r,nx=>(f,b)::gaps (b+1) r nx
theorem gaps_in: ∀ {bs:List Nat} {f nx b:Nat},f≤b→b<nx→((gaps f bs nx).any fun r=>r.1≤b&&b<r.2)=false→b∈bs
 |[],f,nx,b,h1,h2,h=>by
  simp only [gaps,List.any_cons,List.any_nil,Bool.or_false,Bool.and_eq_false_iff,decide_eq_false_iff_not] at h
  omega
 |c::r,f,nx,b,h1,h2,h=>by
  simp only [gaps,List.any_cons,Bool.or_eq_false_iff,Bool.and_eq_false_iff,decide_eq_false_iff_not] at h
  by_cases e:b=c
  ·rw [e];exact List.mem_cons_self ..
  ·exact List.mem_cons_of_mem _ (gaps_in (by omega) h2 h.2)
def asc:Nat→List Nat→Prop
 |_,[]=>True
 |f,b::r=>f≤b∧asc (b+1) r
theorem gaps_out: ∀ {bs:List Nat} {f nx b:Nat},asc f bs→b∈bs→(∀ c∈bs,c<nx)→((gaps f bs nx).any fun r=>r.1≤b&&b<r.2)=false
 |c::r,f,nx,b,ha,hb,hn=>by
  have up: ∀ {l:List Nat} {g:Nat},asc g l→ ∀ d∈l,g≤d:=by
   intro l
   induction l with
   |nil=>intro g _ d hd;cases hd
   |cons x l ih=>
    intro g hg d hd
    rcases List.mem_cons.1 hd with rfl|hd
    ·exact hg.1
    ·have:=ih hg.2 d hd
     have:=hg.1
     omega
  have low: ∀ {l:List Nat} {g d:Nat},d<g→asc g l→(∀ c∈l,c<nx)→((gaps g l nx).any fun r=>r.1≤d&&d<r.2)=false:=by
   intro l
   induction l with
   |nil=>
    intro g d hd _ _
    simp only [gaps,List.any_cons,List.any_nil,Bool.or_false,Bool.and_eq_false_iff,decide_eq_false_iff_not]
    omega
   |cons x l ih=>
    intro g d hd hg hx
    simp only [gaps,List.any_cons,Bool.or_eq_false_iff,Bool.and_eq_false_iff,decide_eq_false_iff_not]
    refine ⟨by omega,ih (by have:=hg.1;omega) hg.2 fun c hc=>hx c (List.mem_cons_of_mem _ hc)⟩
  simp only [gaps,List.any_cons,Bool.or_eq_false_iff,Bool.and_eq_false_iff,decide_eq_false_iff_not]
  rcases List.mem_cons.1 hb with rfl|hb
  ·exact ⟨by omega,low (by omega) ha.2 fun c hc=>hn c (List.mem_cons_of_mem _ hc)⟩
  ·have:=up ha.2 b hb
   exact ⟨by omega,gaps_out ha.2 hb fun c hc=>hn c (List.mem_cons_of_mem _ hc)⟩
theorem wr_asc {fr:List Val} {vo:VOp} {bs:List Nat} (hw:wrBlocks fr vo=some bs):asc 0 bs∧2≤vo.kind:=by
 cases vo<;>simp only [wrBlocks] at hw<;>try (cases hw;done)
 case store n x y=>
  split at hw
  ·cases hw
   exact ⟨⟨Nat.zero_le _,trivial⟩,by simp [VOp.kind]⟩
  ·cases hw
 case append size bytes x y=>
  split at hw
  ·split at hw
   ·rename_i hlt
    cases hw
    exact ⟨⟨Nat.zero_le _,hlt,trivial⟩,by simp [VOp.kind]⟩
   ·split at hw
    ·rename_i hlt
     cases hw
     exact ⟨⟨Nat.zero_le _,hlt,trivial⟩,by simp [VOp.kind]⟩
    ·cases hw
  ·cases hw
end Go.V
end
section
namespace Go
section
variable {F:Fence} {n:Nat} {P:Program} {b:Frame} {a:Act} {k:List Item} {cs:List Frame} {w:World} {Q:Exit→Act→World→Prop}
theorem stepR_scopeV {c:Code}:step P (lone (b.atR a (.code (.scope c)::k)) cs w)=.next (lone (b.atR a (.code c::.inScope c::k)) cs w):=
 step_lone_go (by simp [stepG,stepG.exec,Frame.atR])
theorem stepR_inScopeV {c:Code}:step P (lone (b.atR a (.inScope c::k)) cs w)=.next (lone (b.atR a k) cs w):=
 step_lone_go (by simp [stepG,stepG.exec,Frame.atR])
theorem wpIn_scope_straightV {c:Code} (h:c.wpIn F n P (Exit.noGoto Q) a w):(Code.scope c).wpIn F n P Q a w:=by
 intro b k cs hro hb hr
 have h0:(lone (b.atR a (.code (.scope c)::k)) cs w).fenced P F:=fenced_calm hb hr rfl
 obtain ⟨e,a₁,w₁,hq,harr⟩:=h b (.inScope c::k) cs hro hb hr
 cases e with
 |normal=>exact ⟨.normal,a₁,w₁,hq,.head h0 stepR_scopeV (StepsIn.trans harr (.one (fenced_calm hb hr rfl) stepR_inScopeV))⟩
 |exit id=>
  have hx:exitTo id (.inScope c::k)=exitTo id k:=by simp [exitTo]
  exact ⟨.exit id,a₁,w₁,hq,fun k' hk=>.head h0 stepR_scopeV (harr.1 k' (by rw [hx];exact hk)),
   fun hr' hk=>let ⟨k₁,h1,h2⟩:=harr.2 hr' (by rw [hx];exact hk);⟨k₁,h1,.head h0 stepR_scopeV h2⟩⟩
 |goto l=>exact hq.elim
 |ret=>exact ⟨_,a₁,w₁,hq,.of_steps (.one h0 stepR_scopeV) harr⟩
 |panic ch=>exact ⟨_,a₁,w₁,hq,.of_steps (.one h0 stepR_scopeV) harr⟩
 |outgrown=>exact ⟨_,a₁,w₁,hq,.of_steps (.one h0 stepR_scopeV) harr⟩
def Exit.jumpV (l:Nat) (J:Act→World→Prop) (Q:Exit→Act→World→Prop):Exit→Act→World→Prop
 | .goto l',a,w=>l'=l∧J a w
 |e,a,w=>Q e a w
def Code.jumpsV (F:Fence) (n:Nat) (P:Program) (rest:Code) (l:Nat) (Q:Exit→Act→World→Prop):Nat→Act→World→Prop
 |0,_,_=>False
 |m+1,a,w=>rest.wpIn F n P (Exit.jumpV l (Code.jumpsV F n P rest l Q m) Q) a w
theorem wpIn_scope_jumpsV {c rest:Code} {l:Nat} (hf:findLabel c l=some rest) (h:c.wpIn F n P (Exit.jumpV l (fun a w=> ∃ m,Code.jumpsV F n P rest l Q m a w) Q) a w):(Code.scope c).wpIn F n P Q a w:=by
 intro b k cs hro hb hr
 have hg:gotoIn l (.inScope c::k)=some (.code rest::.inScope c::k):=by simp [gotoIn,hf]
 have h0:(lone (b.atR a (.code (.scope c)::k)) cs w).fenced P F:=fenced_calm hb hr rfl
 have out: ∀ (m:Machine) (e:Exit) (a₁:Act) (w₁:World),(∀ l,e≠.goto l)→ArrivesIn (Machine.fenced P F) P m b (.inScope c::k) cs e a₁ w₁→ArrivesIn (Machine.fenced P F) P m b k cs e a₁ w₁:=by
  intro m e a₁ w₁ he harr
  cases e with
  |normal=>exact StepsIn.trans harr (.one (fenced_calm hb hr rfl) stepR_inScopeV)
  |exit id=>
   have hx:exitTo id (.inScope c::k)=exitTo id k:=by simp [exitTo]
   exact ⟨fun k' hk=>harr.1 k' (by rw [hx];exact hk),fun hr' hk=>harr.2 hr' (by rw [hx];exact hk)⟩
  |goto l=>exact absurd rfl (he l)
  |ret=>exact harr
  |panic ch=>exact harr
  |outgrown=>exact harr
 have key: ∀ m a w,Code.jumpsV F n P rest l Q m a w→ ∃ e a' w',Q e a' w'∧ArrivesIn (Machine.fenced P F) P (lone (b.atR a (.code rest::.inScope c::k)) cs w) b k cs e a' w':=by
  intro m
  induction m with
  |zero=>intro a w h;exact h.elim
  |succ m ih=>
   intro a w h
   obtain ⟨e,a₁,w₁,hq,harr⟩:=h b (.inScope c::k) cs hro hb hr
   cases e with
   |goto l'=>
    obtain ⟨rfl,hJ⟩:=hq
    obtain ⟨e₂,a₂,w₂,hq₂,harr₂⟩:=ih a₁ w₁ hJ
    exact ⟨e₂,a₂,w₂,hq₂,.of_steps (harr.1 _ hg) harr₂⟩
   |_=>exact ⟨_,a₁,w₁,hq,out _ _ _ _ (fun _ q=>by cases q) harr⟩
 obtain ⟨e,a₁,w₁,hq,harr⟩:=h b (.inScope c::k) cs hro hb hr
 cases e with
 |goto l'=>
  obtain ⟨rfl,m,hJ⟩:=hq
  obtain ⟨e₂,a₂,w₂,hq₂,harr₂⟩:=key m a₁ w₁ hJ
  exact ⟨e₂,a₂,w₂,hq₂,.of_steps (.head h0 stepR_scopeV (harr.1 _ hg)) harr₂⟩
 |_=>exact ⟨_,a₁,w₁,hq,.of_steps (.one h0 stepR_scopeV) (out _ _ _ _ (fun _ q=>by cases q) harr)⟩
end
namespace V
variable [Gd]
theorem Post.beside {ρ:Ren} {h:Heap} {w:World} (hr:HRel ρ h w) (o:Obj):Post ρ h w ρ h (w.alloc o):=by
 have hold: ∀ c,c<w.heap.size→(w.alloc o).heap[c]? =w.heap[c]? :=by
  intro c hc
  show (w.heap.push o)[c]? =_
  rw [Array.getElem?_push,if_neg (by omega)]
 refine ⟨Ren.le_refl _,⟨?_,hr.inj,hr.top,hr.low,hr.bs,hr.tight⟩,rfl,rfl,rfl,Nat.le_refl _,fun _ _ h=>h,rfl,rfl,rfl,?_,fun c hc _=>hold c hc,fun b l h1 h2=>(by rw [h1] at h2;cases h2),fun b l h1 h2=>(by rw [h1] at h2;cases h2)⟩
 ·intro b x e
  obtain ⟨l,h1,h2⟩:=hr.blk b x e
  exact ⟨l,h1,h2.mono (Ren.le_refl _) (hold _ h2.lt)⟩
 ·show w.heap.size≤(w.heap.push o).size
  simp
theorem Post.aside {ρ ρ':Ren} {h h':Heap} {w w' w'':World} (p:Post ρ h w ρ' h' w') {r:Nat} (hr:w.heap.size≤r) (ha: ∀ b x l,h'.get b=some x→ρ' b=some l→l.c≠r)
  (hw: ∀ c,c≠r→w''.heap[c]? =w'.heap[c]?) (hs:w''.heap.size=w'.heap.size) (ho:w''.os=w'.os) (ht:w''.tape=w'.tape) (hp:w''.output=w'.output):Post ρ h w ρ' h' w'':=by
 have q:=p.hrel
 refine ⟨p.ext,⟨?_,q.inj,q.top,q.low,q.bs,q.tight⟩,p.hid,p.floor,p.base,p.next,p.live,ho.trans p.os,ht.trans p.tape,hp.trans p.output,by rw [hs];exact p.size,?_,p.fresh,p.born⟩
 ·intro b x e
  obtain ⟨l,h1,h2⟩:=q.blk b x e
  exact ⟨l,h1,h2.mono (Ren.le_refl _) (hw _ (ha b x l e h1))⟩
 ·intro c hc k
  rw [hw c (by omega)]
  exact p.frame c hc k
def mark (r:Nat):Deferred:={target:=.collected r,args:= #[]}
def Marks (lo:Nat) (ρ:Ren) (h:Heap) (w:World) (ds base:List Deferred):Prop:=
 ∃ rs:List Nat,rs.Nodup∧ds=rs.map mark++base∧ ∀ r∈rs,lo≤r∧w.heap[r]? =some (.deferred (some []))∧ ∀ b x l,h.get b=some x→ρ b=some l→l.c≠r
theorem Marks.refl {lo:Nat} {ρ:Ren} {h:Heap} {w:World} {ds base:List Deferred} (e:ds=base):Marks lo ρ h w ds base:=
 ⟨[],.nil,by simp [e],fun _ h=>by cases h⟩
theorem Marks.post {lo:Nat} {ρ ρ':Ren} {h h':Heap} {w w':World} {ds base:List Deferred} (m:Marks lo ρ h w ds base) (hr:HRel ρ h w) (p:Post ρ h w ρ' h' w'):Marks lo ρ' h' w' ds base:=by
 obtain ⟨rs,h1,h2,h3⟩:=m
 refine ⟨rs,h1,h2,fun r hr'=> ?_⟩
 obtain ⟨q1,q2,q3⟩:=h3 r hr'
 have hlt:r<w.heap.size:=(Array.getElem?_eq_some_iff.1 q2).1
 refine ⟨q1,?_,?_⟩
 ·rw [p.frame r hlt fun b x l e _ hl=>q3 b x l e hl];exact q2
 ·intro b x l e hl
  cases hb:ρ b with
  |some l0=>
   have:=p.ext _ _ hb
   rw [hl] at this;cases this
   have hbn:b<h.next:=by
    rcases Nat.lt_or_ge b h.next with k|k
    ·exact k
    ·rw [hr.top b k] at hb;cases hb
   obtain ⟨x0,hx0⟩:=Option.isSome_iff_exists.1 (p.live b hbn (by simp [e]))
   exact q3 b x0 l hx0 hb
  |none=>
   rcases p.fresh b l hl hb with k|⟨b0,x0,l0,k1,_,k3,k4⟩
   ·omega
   ·rw [←k4];exact q3 b0 x0 l0 k1 k3
theorem Marks.trans {lo:Nat} {ρ ρ':Ren} {h h':Heap} {w w':World} {d0 d1 d2:List Deferred} (m:Marks lo ρ h w d1 d0) (hr:HRel ρ h w) (p:Post ρ h w ρ' h' w') (hlo:lo≤w.heap.size) (k:Marks w.heap.size ρ' h' w' d2 d1):Marks lo ρ' h' w' d2 d0:=by
 obtain ⟨rs1,a1,a2,a3⟩:=m.post hr p
 obtain ⟨rs0,_,c2,c3⟩:=m
 obtain ⟨rs2,b1,b2,b3⟩:=k
 have heq:rs1=rs0:=by
  have:=List.append_cancel_right (a2.symm.trans c2)
  exact (List.map_inj_right (fun x y e=>by simpa [mark] using e)).1 this
 refine ⟨rs2++rs1,List.nodup_append.2 ⟨b1,a1,?_⟩,by rw [b2,a2];simp,?_⟩
 ·intro x hx y hy e
  subst e
  rw [heq] at hy
  have q1:=(b3 x hx).1
  have q2:=(Array.getElem?_eq_some_iff.1 (c3 x hy).2.1).1
  omega
 ·intro r hr'
  rcases List.mem_append.1 hr' with e|e
  ·exact ⟨Nat.le_trans hlo (b3 r e).1,(b3 r e).2⟩
  ·exact a3 r e
theorem leave_marks {P:Program} {fn:Func} {tmps:Array Value} {R:Ending→World→Prop} {ρ ρ':Ren} {h h':Heap} {w:World}: ∀ (rs:List Nat) (w':World),rs.Nodup→(∀ r∈rs,w.heap.size≤r∧w'.heap[r]? =some (.deferred (some []))∧ ∀ b x l,h'.get b=some x→ρ' b=some l→l.c≠r)→
  Post ρ h w ρ' h' w'→(∀ w'',Post ρ h w ρ' h' w''→ ∃ v,(results fn tmps).run P w''=.ok v w''∧R (.returned v) w'')→LeavesInM Fence.wide 0 P fn tmps R (rs.map mark) .returning w'
 |[],w',_,_,p,k=>k w' p
 |r::rs,w',hn,hr,p,k=>by
  obtain ⟨q1,q2,q3⟩:=hr r (by simp)
  simp only [List.nodup_cons] at hn
  have hlt:r<w'.heap.size:=(Array.getElem?_eq_some_iff.1 q2).1
  let w1:World:={w' with heap:=w'.heap.setIfInBounds r (.deferred none)}
  have hne: ∀ c,c≠r→w1.heap[c]? =w'.heap[c]? :=fun c hc=>by simp [w1,Ne.symm hc]
  refine ⟨by simp,.inl ⟨r,w1,rfl,?_,leave_marks rs w1 hn.2 (fun r' hr'=> ?_) (p.aside q1 q3 hne (by simp [w1]) rfl rfl rfl) k⟩⟩
  ·simp [Instr.takeDeferred,getObj,setObj,Sem.run,q2,w1]
  ·obtain ⟨a1,a2,a3⟩:=hr r' (by simp [hr'])
   exact ⟨a1,by rw [hne r' (fun e=>hn.1 (e▸hr'))];exact a2,a3⟩
end V
end Go
end
section
namespace Go.V
variable [Gd]
theorem setAll_rel {ρ:Ren}: ∀ (ps:List Nat) (vals:List Val) (cargs:List Value) (fr:List Val) (ts:Array Value),VRels ρ vals cargs→VRels ρ fr ts.toList→VRels ρ (setAll fr (ps.zip vals)) ((ps.zip cargs).foldl (fun tmps (p:Nat×Value)=>tmps.setIfInBounds p.1 p.2) ts).toList
 |[],vals,cargs,fr,ts,_,hf=>by simpa [setAll] using hf
 |p::ps,[],cargs,fr,ts,h,hf=>by
  simp only [VRels] at h;subst h
  simpa [setAll] using hf
 |p::ps,v::vals,cargs,fr,ts,h,hf=>by
  simp only [VRels] at h
  obtain ⟨y,s,rfl,h1,h2⟩:=h
  simp only [List.zip_cons_cons,setAll,List.foldl_cons]
  exact setAll_rel ps vals s _ _ h2 (by rw [Array.toList_setIfInBounds];exact hf.set p h1)
theorem rnd_get {ρ:Ren} {h:Heap} {w:World} (hr:HRel ρ h w) {j st:Nat} (hg:h.get j=some (.rnd st)) {l:Loc} (hl:ρ j=some l):
  ∃ (rc:Loop) (r:Nat),w.heap[l.c]? =some (.loop rc)∧l.rd=some (r,rc.tmps)∧Gd.rd r rc.params rc.assign rc.body∧RSt st rc:=by
 obtain ⟨l',hl',h1⟩:=hr.blk j _ hg
 rw [hl] at hl';cases hl'
 exact h1
theorem run_getLoop {P:Program} {w:World} {l:Nat} {rc:Loop} (h:w.heap[l]? =some (.loop rc)):(Instr.getLoop l).run P w=.ok rc w:=by
 simp [Instr.getLoop,getObj,Sem.run,h]
theorem run_setLoop {P:Program} {w:World} {l:Nat} {rc:Loop} (h:w.heap[l]? =some (.loop rc)) (o:Obj):(setObj l o).run P w=.ok () {w with heap:=w.heap.setIfInBounds l o}:=by
 simp [setObj,Sem.run,h]
theorem rnd_put {ρ:Ren} {h:Heap} {w:World} (hr:HRel ρ h w) {j st st':Nat} (hg:h.get j=some (.rnd st)) (hf:h.floor≤j) {l:Loc} (hl:ρ j=some l) {rc rc':Loop} (hw:w.heap[l.c]? =some (.loop rc))
  (e1:rc'.tmps=rc.tmps) (e2:rc'.params=rc.params) (e3:rc'.assign=rc.assign) (e4:rc'.body=rc.body) (hs:RSt st' rc'):
  Post ρ h w ρ (h.put j (some (.rnd st'))) {w with heap:=w.heap.setIfInBounds l.c (.loop rc')}:=by
 obtain ⟨rc0,r,h1,h2,h3,_⟩:=rnd_get hr hg hl
 rw [hw] at h1;cases h1
 have hlt:l.c<w.heap.size:=(Array.getElem?_eq_some_iff.1 hw).1
 refine Post.put hr hg hf hl (fun c hc=>by simp [Ne.symm hc]) (by simp) rfl rfl rfl ⟨rc',r,by simp [hlt],?_,?_,hs⟩
 ·rw [e1];exact h2
 ·rw [e2,e3,e4];exact h3
def CodeOk (P:Program) (pl:Prop) (ro:Option Nat) (c:Code) (fr:List Val) (h:Heap) (ex:Ex) (fr':List Val) (h':Heap):Prop:=
 ∀ (ρ:Ren) (w:World) (a:Act) (Q:Exit→Act→World→Prop),HRel ρ h w→FRel ρ fr a→
  (∀ a' w' ρ',Post ρ h w ρ' h' w'→FRel ρ' fr' a'→Marks w.heap.size ρ' h' w' a'.defers a.defers→(pl→a'.defers=a.defers)→Q ex.conv a' w')→c.wpIn (W ro) 0 P Q a w
theorem range_wp {P:Program} {call:CallT} (hcs:CallSound P call) {g:Operand} {x:Opd} (hx:cOpd g=some x) {ps:Array Tmp} {as bd:Code} {r:Nat} (hrd:Gd.rd r ps as bd) {fr:List Val} {h:Heap} {f:FuncId} {first captured:List Val} (hev:ev fr x=.func (.func f) first captured)
  {v:Val} {h1:Heap} (hcall:call f (first++.func (.yield r) fr [.ptr h.next 0]::captured) (h.new (.rnd 0)).2=some (v,h1)) (hfl:h1.floor≤h.next) {ex:Ex} {fr':List Val} {h':Heap} (hend:endRange fr h.next h1=some (ex,fr',h')):
  CodeOk P False none (.rangeFunc g ps as bd) fr h ex fr' h':=by
 intro ρ w a Q hr hf k
 have hv:=hf.ev hx
 rw [hev] at hv
 simp only [VRel] at hv
 rcases hv with ⟨hsm,a',c',hval,r1,r2⟩|⟨_,_,_,_,_,e,_⟩
 rotate_left
 ·cases e
 have hsm':f<big:=by simpa [smallFn] using hsm
 obtain ⟨⟨fn,hfn,hb,hn⟩,hcalls⟩:=(hcs f _ _ v h1 hcall).1 hsm'
 refine wpIn_rangeFunc fun fn0 _=> ?_
 let w0:=w.alloc (.deferred (some []))
 let rc:Loop:={state:=.ready,pending:=none,fn:=fn0,tmps:=a.tmps,params:=ps,assign:=as,body:=bd,defers:=w.heap.size}
 let w1:=w0.alloc (.loop rc)
 let l:Loc:=⟨w.heap.size+1,0,0,true,some (r,a.tmps)⟩
 have p0:Post ρ h w ρ h w0:=Post.beside hr _
 have hw0:w0.heap.size=w.heap.size+1:=by
  show (w.heap.push _).size =_
  simp
 have hget1:w1.heap[w.heap.size+1]? =some (.loop rc):=by
  show (w0.heap.push _)[w.heap.size+1]? =_
  rw [←hw0];simp
 have p1:Post ρ h w0 (ρ.upd h.next l) (h.new (.rnd 0)).2 w1:=
  Post.new p0.hrel (.rnd 0) (.loop rc) w1 l rfl (by simp [l,hw0]) rfl rfl rfl rfl ⟨rc,r,hget1,rfl,hrd,rfl,rfl⟩
 have p01:=p0.trans p1 hr
 have hρj:(ρ.upd h.next l) h.next=some l:=by simp [Ren.upd]
 have hargs:VRels (ρ.upd h.next l) (first++.func (.yield r) fr [.ptr h.next 0]::captured) (a'++ #[Value.func (.yield l.c) #[] #[]]++c').toList :=by
  simp only [Array.toList_append,List.append_assoc]
  refine (VRels.mono p1.ext _ _ r1).append (.cons ?_ (VRels.mono p1.ext _ _ r2))
  simp only [VRel]
  exact .inr ⟨r,h.next,0,l,a.tmps,rfl,rfl,hρj,rfl,rfl,VRels.mono p1.ext _ _ hf⟩
 have c1:=hcalls (ρ.upd h.next l) w1 _ p1.hrel hargs
 refine ⟨w.heap.size+1,[mark w.heap.size],w1,{target:=.fn (.func f) c',args:=a'++ #[Value.func (.yield (w.heap.size+1)) #[] #[]]},w1,f,a'++ #[Value.func (.yield (w.heap.size+1)) #[] #[]]++c',w1,?_,?_,fun _ _=>trivial,?_,fun e=>(by cases e),?_⟩
 ·show (Instr.enterLoop fn0 a.tmps ps as bd none).run P w=_
  simp only [Instr.enterLoop,Sem.run_bind,Sem.run_pure,run_newObj,Result.andThen_ok]
  simp only [Array.size_push]
  rfl
 ·have hcn:a.eval (.const (.func (.yield (w.heap.size+1)) #[] #[]))=.func (.yield (w.heap.size+1)) #[] #[]:=rfl
  simp [resolve,hval,Deferred.ofValue,hcn]
 ·simp only [invoke]
  exact run_callFunc hfn hb hn _ _
 ·refine callsW (ro:=none) (c1.mono ?_)
  rintro e w3 ⟨cv,ρ3,rfl,p3,_⟩
  have p13:=p01.trans p3 hr
  have hl3:ρ3 h.next=some l:=p3.ext _ _ hρj
  have m1:Marks w.heap.size (ρ.upd h.next l) (h.new (.rnd 0)).2 w1 (mark w.heap.size::a.defers) a.defers:=by
   refine ⟨[w.heap.size],by simp,rfl,fun r hr'=> ?_⟩
   simp only [List.mem_singleton] at hr';subst hr'
   refine ⟨Nat.le_refl _,?_,?_⟩
   ·show (w0.heap.push _)[w.heap.size]? =_
    rw [Array.getElem?_push,if_neg (by omega)]
    show (w.heap.push _)[w.heap.size]? =_
    simp
   ·intro b x l0 hg hl0 hc
    rw [Heap.new_get] at hg
    split at hg
    ·cases hg
    ·rename_i hh
     by_cases hb:b=h.next
     ·subst hb
      rw [hρj] at hl0;cases hl0
      simp [l] at hc
     ·rw [if_neg hb] at hg
      have hg':h.get b=some x:=by unfold Heap.get;rw [if_neg hh];exact hg
      obtain ⟨l1,e1,e2⟩:=hr.blk b x hg'
      simp only [Ren.upd,if_neg hb] at hl0
      rw [e1] at hl0;cases hl0
      have:=e2.lt
      omega
  have m3:=m1.post p1.hrel p3
  have fin: ∀ (st:Nat) (rc':Loop),h1.get h.next=some (.rnd st)→w3.heap[l.c]? =some (.loop rc')→h'=h1.put h.next (some (.rnd 1))→fr'=fr→Q ex.conv {a with defers:=mark w.heap.size::a.defers} {w3 with heap:=w3.heap.setIfInBounds l.c (.loop {rc' with state:=.exhausted})}:=by
   intro st rc' hg hw eh ef
   subst eh ef
   have p4:=rnd_put p3.hrel hg hfl hl3 hw (rc':={rc' with state:=.exhausted}) (st':=1) rfl rfl rfl rfl trivial
   exact k _ _ _ (p13.trans p4 hr) (hf.mono p13.ext) (m3.post p3.hrel p4) False.elim
  have hendl: ∀ (rc':Loop),w3.heap[l.c]? =some (.loop rc')→rc'.state≠.busy →(Instr.endLoop l.c).run P w3=.ok rc'.pending {w3 with heap:=w3.heap.setIfInBounds l.c (.loop {rc' with state:=.exhausted})}:=by
   intro rc' hw hne
   simp only [Instr.endLoop,Sem.run_bind,run_getLoop hw,Result.andThen_ok]
   cases hs:rc'.state<;>simp_all [run_setLoop hw]
  unfold endRange at hend
  split at hend
  ·rename_i hg
   cases hend
   obtain ⟨rc',r',e1,_,_,e2⟩:=rnd_get p3.hrel hg hl3
   refine ⟨none,_,?_,fin _ rc' hg e1 rfl rfl⟩
   rw [hendl rc' e1 (by rw [e2.1];simp),e2.2]
  ·rename_i hg
   cases hend
   obtain ⟨rc',r',e1,_,_,e2⟩:=rnd_get p3.hrel hg hl3
   refine ⟨some .ret,_,?_,wpIn_ret (fin _ rc' hg e1 rfl rfl)⟩
   rw [hendl rc' e1 (by rw [e2.1];simp),e2.2]
  ·rename_i i hg
   cases hend
   obtain ⟨rc',r',e1,_,_,e2⟩:=rnd_get p3.hrel hg hl3
   refine ⟨some (.exit i),_,?_,wpIn_exit (fin _ rc' hg e1 rfl rfl)⟩
   rw [hendl rc' e1 (by rw [e2.1];simp),e2.2]
  ·cases hend
theorem round_sound {P:Program} {E:Env} (hE:EnvOk P E) {ex:VC→List Val→Heap→Option (Ex×List Val×Heap)}
  (ih: ∀ (c:Code) (vc:VC) (fr fr':List Val) (h h':Heap) (e:Ex) (ro:Option Nat),cCode P none c=some vc→ex vc fr h=some (e,fr',h')→CodeOk P True ro c fr h e fr' h')
  {rd:Rnd} {r:Nat} (hrd:E.rnd r=some rd) {j:Nat} {vals fr:List Val} {h h':Heap} {v:Val} (hcall:roundF ex rd j vals fr h=some (v,h')) {ρ:Ren} {w:World} {cargs:Array Value} {l:Loc} {ts:Array Value} (hr:HRel ρ h w) (hl:ρ j=some l) (hlr:l.rd=some (r,ts)) (hfr:VRels ρ fr ts.toList) (hv:VRels ρ vals cargs.toList):
  ∃ fn tmps assign body,(Instr.yield l.c cargs).run P w=.ok (.round l.c fn tmps assign body) w∧RoundIn Fence.wide 0 P l.c fn tmps assign body w (fun e w'=> ∃ cv ρ',e=.returned cv∧Post ρ h w ρ' h' w'∧VRel ρ' v cv):=by
 unfold roundF at hcall
 split at hcall
 rotate_left
 ·cases hcall
 rename_i hh
 split at hcall
 rotate_left
 ·cases hcall
 rename_i hg
 split at hcall
 rotate_left
 ·cases hcall
 rename_i f1 h1 e1
 split at hcall
 rotate_left
 ·cases hcall
 rename_i hg1
 split at hcall
 rotate_left
 ·cases hcall
 rename_i e f2 h2 e2
 split at hcall
 rotate_left
 ·cases hcall
 rename_i st hg2
 cases hcall
 obtain ⟨rc,r',a1,a2,a3,_⟩:=rnd_get hr hg hl
 rw [hlr] at a2;cases a2
 obtain ⟨rd',b1,b2⟩:=(hE.rd _ _ _ _).1 a3
 rw [hrd] at b1;cases b1
 unfold cRnd at b2
 split at b2
 rotate_left
 ·cases b2
 rename_i vx vy hvx hvy
 cases b2
 have hsz:cargs.size=rc.params.size:=by
  have:=hv.length
  simp only [Array.length_toList] at this hh
  omega
 refine ⟨rc.fn,(rc.params.zip cargs).foldl (fun tmps (p:Nat×Value)=>tmps.setIfInBounds p.1 p.2) rc.tmps,rc.assign,rc.body,?_,?_⟩
 ·simp only [Instr.yield,Sem.run_bind,run_getLoop a1,Result.andThen_ok]
  rw [if_neg (by simp [hsz])]
  rfl
 ·refine roundIn_of_wpIn trivial ?_
  show Code.wpIn (W (some l.c)) 0 P rc.assign _ _ _
  have hf0:FRel ρ (setAll fr (rc.params.toList.zip vals)) {tmps:=(rc.params.zip cargs).foldl (fun tmps (p:Nat×Value)=>tmps.setIfInBounds p.1 p.2) rc.tmps,defers:=[]}:=by
   unfold FRel
   have:=setAll_rel rc.params.toList vals cargs.toList fr rc.tmps hv hfr
   rw [←Array.foldl_toList,Array.toList_zip]
   exact this
  refine ih rc.assign vx _ f1 h h1 .normal (some l.c) hvx e1 ρ w _ _ hr hf0 fun a1' w1 ρ1 p1 hf1 _ _=> ?_
  have hl1:ρ1 j=some l:=p1.ext _ _ hl
  have hfl1:h1.floor≤j:=by rw [p1.floor];exact hh.2
  obtain ⟨rc1,r1,c1,c2,c3,c4⟩:=rnd_get p1.hrel hg1 hl1
  have p2:=rnd_put p1.hrel hg1 hfl1 hl1 c1 (rc':={rc1 with state:=.busy}) (st':=1) rfl rfl rfl rfl trivial
  refine ⟨{w1 with heap:=w1.heap.setIfInBounds l.c (.loop {rc1 with state:=.busy})},?_,?_⟩
  ·simp only [Instr.beginRound,Sem.run_bind,run_getLoop c1,run_setLoop c1,Result.andThen_ok,c4.1,Sem.run_pure]
  ·show Code.wpIn (W (some l.c)) 0 P rc.body _ _ _
   refine ih rc.body vy _ f2 _ h2 e (some l.c) hvy e2 ρ1 _ _ _ p2.hrel hf1 fun a2' w2 ρ2 p3 hf2 _ _=> ?_
   have hl2:ρ2 j=some l:=p3.ext _ _ hl1
   have hfl2:h2.floor≤j:=by rw [p3.floor];exact hfl1
   obtain ⟨rc2,r2,d1,d2,d3,d4⟩:=rnd_get p3.hrel hg2 hl2
   have pall:=((p1.trans p2 hr).trans p3 hr)
   have fin: ∀ (jump:Option Code) (st':Nat),RSt st' {rc2 with state:=if jump.isNone then .ready else .done,pending:=jump}→e.code=st'→jump.isNone=e.isNormal→
     ∃ v w',(Instr.endRound l.c jump).run P w2=.ok v w'∧ ∃ cv ρ',Ending.returned v=.returned cv∧Post ρ h w ρ' (h2.put j (some (.rnd e.code))) w'∧VRel ρ' (.bool e.isNormal) cv:=by
    intro jump st' hst hc hj
    subst hc
    have p4:=rnd_put p3.hrel hg2 hfl2 hl2 d1 (rc':={rc2 with state:=if jump.isNone then .ready else .done,pending:=jump}) (st':=e.code) rfl rfl rfl rfl hst
    refine ⟨.bool jump.isNone,_,?_,_,ρ2,rfl,pall.trans p4 hr,by simp only [VRel];rw [hj]⟩
    simp [Instr.endRound,run_getLoop d1,run_setLoop d1]
   cases e with
   |normal=>exact fin none 0 ⟨rfl,rfl⟩ rfl rfl
   |ret=>exact fin (some .ret) 2 ⟨rfl,rfl⟩ rfl rfl
   |exit i=>exact fin (some (.exit i)) (i+3) ⟨rfl,rfl⟩ rfl rfl
end Go.V
end
section
namespace Go.V
variable [Gd]
def DrawOk (P:Program):Prop:=
 ∀ (_:TyOk P) (ro:Option Nat) (meth:TypeId→Val→String→Option (FuncId×Val)) (_:MethSound P meth) (call:CallT) (_:CallSound P call) (_:CallExt call) (id:Nat) (ops:Array Oper) (vl:List VOper) (fr fr':List Val) (h h':Heap) (ρ:Ren) (w:World) (a:Act) (Q:Exit→Act→World→Prop),
  cRegion P ops true=some (.draw vl)→runDraw meth call vl vl [] fr h=some (fr',h')→HRel ρ h w→FRel ρ fr a→
  (∀ a' w' ρ',Post ρ h w ρ' h' w'→FRel ρ' fr' a'→a'.defers=a.defers→Q .normal a' w')→(Code.region id ops true).wpIn (W ro) 0 P Q a w
theorem cRegion_draw {P:Program} {ops:Array Oper} {draw:Bool} {vc:VC} (h:cRegion P ops draw=some vc):(draw=true∧ ∃ vl,vc=.draw vl)∨(draw=false∧ ∃ vl,vc=.region vl∧OpsRel P ops (List.range ops.size) vl):=by
 unfold cRegion at h
 split at h
 ·cases h
 ·rename_i vs hvs
  simp only at h
  split at h
  ·rename_i hd
   split at h
   ·split at h
    ·cases h
     exact .inl ⟨hd,_,rfl⟩
    ·cases h
   ·cases h
  ·rename_i hd
   simp only [Option.map_eq_some_iff] at h
   obtain ⟨vl,hvl,rfl⟩:=h
   refine .inr ⟨by simpa using hd,vl,rfl,?_⟩
   have:=cOpers_rel hvs ops.toList vs 0 vl rfl rfl hvl
   rw [List.range_eq_range']
   simpa using this
theorem results_run {P:Program} {ρ:Ren} {h:Heap} {w:World} (hr:HRel ρ h w) {fr:List Val} {a:Act} (hf:FRel ρ fr a) {fn:Func} (hres:(fn.results.toList.all fun r=>match r with| .tmp _=>true| .cell _ t=>(P.underlying t).isSome)=true) {l:List Val} (hl:readResults fr h (cResults P fn.results.toList)=some l):
  ∃ cv,(results fn a.tmps).run P w=.ok cv w∧VRel ρ (resultOf l) cv:=by
 obtain ⟨m,hm,hrel⟩:=results_rel (P:=P) hr hf fn.results.toList l hres hl
 have hmA:(results fn a.tmps).run P w=.ok (if h:m.toArray.size=1 then m.toArray[0] else .tuple m.toArray) w:=by
  unfold results
  rw [Array.mapM_eq_mapM_toList]
  simp only [Sem.run_bind,Sem.run_map]
  have hm2:=congrArg (fun r=>(r.andThen fun (a:List Value) w'=>Result.ok a.toArray w').andThen fun a w'=>Sem.run P (Pure.pure (if h:a.size=1 then a[0] else Value.tuple a)) w') hm
  exact hm2
 refine ⟨_,hmA,?_⟩
 cases l with
 |nil=>
  simp only [VRels] at hrel;subst hrel
  simp only [resultOf,VRel];exact ⟨_,rfl,.nil⟩
 |cons x l=>
  simp only [VRels] at hrel
  obtain ⟨y,s,rfl,hx,hs⟩:=hrel
  cases l with
  |nil=>simp only [VRels] at hs;subst hs;simpa [resultOf] using hx
  |cons x2 l=>
   have hs':=hs
   simp only [VRels] at hs
   obtain ⟨y2,s2,rfl,hx2,hs2⟩:=hs
   simp only [resultOf,VRel]
   exact ⟨_,by simp,.cons hx hs'⟩
theorem cCode_plain {P:Program} {b:Option Nat}: ∀ (c:Code) (vc:VC),cCode P b c=some vc→vc.plain=true→cCode P none c=some vc:=by
 intro c
 induction c with
 |seq x y hx hy=>
  intro vc h hp
  simp only [cCode] at h ⊢
  split at h
  ·rename_i vx vy h1 h2
   cases h
   simp only [VC.plain,Bool.and_eq_true] at hp
   rw [hx vx h1 hp.1,hy vy h2 hp.2]
  ·cases h
 |cond c x y hx hy=>
  intro vc h hp
  simp only [cCode] at h ⊢
  split at h
  ·rename_i vc vx vy h0 h1 h2
   cases h
   simp only [VC.plain,Bool.and_eq_true] at hp
   rw [h0,hx vx h1 hp.1,hy vy h2 hp.2]
  ·cases h
 |block id x hx=>
  intro vc h hp
  simp only [cCode,Option.map_eq_some_iff] at h ⊢
  obtain ⟨vx,h1,rfl⟩:=h
  exact ⟨vx,hx vx h1 hp,rfl⟩
 |loop x hx=>
  intro vc h hp
  simp only [cCode,Option.map_eq_some_iff] at h ⊢
  obtain ⟨vx,h1,rfl⟩:=h
  exact ⟨vx,hx vx h1 hp,rfl⟩
 |scope x hx=>intro vc h hp;simp only [cCode] at h ⊢;exact hx vc h hp
 |rangeFunc g ps x y _ _=>
  intro vc h hp
  simp only [cCode] at h
  split at h
  ·cases h;cases hp
  ·cases h
 |goto=>intro vc h;simp [cCode] at h
 |refuse=>intro vc h;simp [cCode] at h
 |_=>intro vc h _;simpa only [cCode] using h
theorem OpsRel.pop {P:Program} {ops:Array Oper}: ∀ (l:List Nat) (vl:List VOper),OpsRel P ops.pop l vl→OpsRel P ops l vl
 |[],[],_=>trivial
 |i::r,vo::vr,⟨⟨o,h1,h2,h3,h4⟩,h5⟩=>by
  have up: ∀ (j:Nat) (x:Oper),ops.pop[j]? =some x→ops[j]? =some x:=by
   intro j x hx
   rw [Array.getElem?_pop] at hx
   split at hx
   ·exact hx
   ·cases hx
  refine ⟨⟨o,up i o h1,h2,h3,?_⟩,OpsRel.pop r vr h5⟩
  cases hg:o.guard with
  |none=>rw [hg] at h4;simpa only [cGuard] using h4
  |some jw=>
   obtain ⟨j,want⟩:=jw
   rw [hg] at h4
   simp only [cGuard] at h4 ⊢
   split at h4
   ·rename_i t ht
    cases hj:ops.pop[j]? with
    |none=>rw [hj] at ht;cases ht
    |some x=>rw [hj] at ht;rw [up j x hj];simp only [Option.bind_some] at ht ⊢;rw [ht];exact h4
   ·cases h4
 |[],_::_,h=>by cases h
 |_::_,[],h=>by cases h
theorem cTail_plain {P:Program} {b:Option Nat} {l:Nat}: ∀ (c:Code) (vc:VC),cTail P b l c=some vc→vc.plain=true→cTail P none l c=some vc:=by
 intro c
 induction c with
 |goto l'=>intro vc h _;simpa only [cTail] using h
 |seq x y _ hy=>
  intro vc h hp
  simp only [cTail] at h ⊢
  split at h
  ·rename_i vx vy h1 h2
   cases h
   simp only [VC.plain,Bool.and_eq_true] at hp
   rw [cCode_plain x vx h1 hp.1,hy vy h2 hp.2]
  ·cases h
 |_=>intro vc h;simp [cTail] at h
theorem cScope_cases {P:Program} {b:Option Nat} {c:Code} {r:Nat×VC} (h:cScope P b c=some r):(∃ l y v,c=.seq (.label l) y∧cTail P b l y=some v∧r=(l,.loop v))∨ ∃ x y vx l vy,c=.seq x y∧(∀ l,x≠.label l)∧cCode P b x=some vx∧cScope P b y=some (l,vy)∧findLabel x l=none∧r=(l,.seq vx vy):=by
 unfold cScope at h
 split at h
 ·rename_i l y
  simp only [Option.map_eq_some_iff] at h
  obtain ⟨v,h1,rfl⟩:=h
  exact .inl ⟨l,y,v,rfl,h1,rfl⟩
 ·rename_i x y hx
  split at h
  ·rename_i vx l vy h1 h2
   split at h
   ·rename_i h3
    cases h
    exact .inr ⟨x,y,vx,l,vy,rfl,fun l q=>hx l q,h1,h2,by simpa using h3,rfl⟩
   ·cases h
  ·cases h
 ·cases h
theorem cScope_plain {P:Program} {b:Option Nat}: ∀ (c:Code) (r:Nat×VC),cScope P b c=some r→r.2.plain=true→cScope P none c=some r:=by
 intro c
 induction c with
 |seq x y _ hy=>
  intro r h hp
  rcases cScope_cases h with ⟨l,y',v,e,h1,rfl⟩|⟨x',y',vx,l,vy,e,hx,h1,h2,h3,rfl⟩
  ·cases e
   simp only [cScope]
   rw [cTail_plain y v h1 hp];rfl
  ·cases e
   simp only [VC.plain,Bool.and_eq_true] at hp
   unfold cScope
   split
   ·rename_i q;cases q;exact absurd rfl (hx _)
   ·rename_i q;cases q
    rw [cCode_plain x vx h1 hp.1,hy _ h2 hp.2]
    simp [h3]
   ·rename_i _ q;exact absurd rfl (q _ _)
 |_=>intro r h;simp [cScope] at h
theorem cGo_plain {P:Program} {b:Option Nat}: ∀ (c:Code) (vc:VC),cGo P b c=some vc→vc.plain=true→cGo P none c=some vc:=by
 intro c
 induction c with
 |seq x y _ hy=>
  intro vc h hp
  simp only [cGo] at h ⊢
  split at h
  ·rename_i vx vy h1 h2
   cases h
   simp only [VC.plain,Bool.and_eq_true] at hp
   rw [cCode_plain x vx h1 hp.1,hy vy h2 hp.2]
  ·cases h
 |scope x _=>
  intro vc h hp
  simp only [cGo,Option.map_eq_some_iff] at h ⊢
  obtain ⟨r,h1,rfl⟩:=h
  exact ⟨r,cScope_plain x r h1 hp,rfl⟩
 |_=>intro vc h;simp [cGo] at h
section
variable {P:Program} {E:Env} {n:Nat} {b:Option Nat} {ro:Option Nat}
def CodesOk (P:Program) (E:Env) (n:Nat):Prop:= ∀ m,m≤n→ ∀ (c:Code) (vc:VC) (b:Option Nat) (ro:Option Nat) (fr fr':List Val) (h h':Heap) (ex:Ex),cCode P b c=some vc→vc.known E→(b≠none→ro=none)→exec E m vc fr h=some (ex,fr',h')→CodeOk P (b=none) ro c fr h ex fr' h'
theorem tail_sound (ih:CodesOk P E n) (hro:b≠none→ro=none) {l:Nat}: ∀ (c:Code) (vc:VC),cTail P b l c=some vc→vc.known E→ ∀ m,m≤n→ ∀ (fr fr':List Val) (h h':Heap) (ex:Ex),exec E m vc fr h=some (ex,fr',h')→ ∀ (ρ:Ren) (w:World) (a:Act) (Q:Exit→Act→World→Prop),HRel ρ h w→FRel ρ fr a→
  (∀ a' w' ρ',Post ρ h w ρ' h' w'→FRel ρ' fr' a'→Marks w.heap.size ρ' h' w' a'.defers a.defers→(b=none→a'.defers=a.defers)→Q (if ex=.normal then .goto l else ex.conv) a' w')→c.wpIn (W ro) 0 P Q a w:=by
 intro c
 induction c with
 |goto l'=>
  intro vc hc _ m _ fr fr' h h' ex he ρ w a Q hr hf k
  simp only [cTail] at hc
  split at hc
  ·rename_i hl
   cases hc
   subst hl
   cases m with
   |zero=>simp [exec] at he
   |succ m=>
    simp only [exec,Option.some.injEq,Prod.mk.injEq] at he
    obtain ⟨rfl,rfl,rfl⟩:=he
    exact wpIn_goto (k a w ρ (.refl hr) hf (.refl rfl) fun _=>rfl)
  ·cases hc
 |seq x y _ ihy=>
  intro vc hc hk m hm fr fr' h h' ex he ρ w a Q hr hf k
  simp only [cTail] at hc
  split at hc
  ·rename_i vx vy hvx hvy
   cases hc
   cases m with
   |zero=>simp [exec] at he
   |succ m=>
    simp only [exec] at he
    refine wpIn_seq ?_
    split at he
    ·rename_i f1 h1 he1
     refine ih m (by omega) x vx b ro fr f1 h h1 .normal hvx hk.1 hro he1 ρ w a _ hr hf fun a1 w1 ρ1 hp1 hf1 hd1 hz1=> ?_
     exact ihy vy hvy hk.2 m (by omega) f1 fr' h1 h' ex he ρ1 w1 a1 Q hp1.hrel hf1 fun a2 w2 ρ2 hp2 hf2 hd2 hz2=>k a2 w2 ρ2 (hp1.trans hp2 hr) hf2 (hd1.trans hp1.hrel hp2 hp1.size hd2) fun hb=>(hz2 hb).trans (hz1 hb)
    ·rename_i hne
     refine ih m (by omega) x vx b ro fr fr' h h' ex hvx hk.1 hro he ρ w a _ hr hf fun a1 w1 ρ1 hp1 hf1 hd1 hz1=> ?_
     have:=k a1 w1 ρ1 hp1 hf1 hd1 hz1
     cases ex with
     |normal=>exact absurd he (hne _ _)
     |exit i=>exact this
     |ret=>exact this
  ·cases hc
 |_=>intro vc h;simp [cTail] at h
theorem jump_round (ih:CodesOk P E n) (hro:b≠none→ro=none) {l:Nat} {y:Code} {vt:VC} (hvt:cTail P b l y=some vt) (hk:vt.known E) {m:Nat} (hm:m≤n) {fr fr':List Val} {h h':Heap} {ex:Ex} (he:exec E (m+1) (.loop vt) fr h=some (ex,fr',h')) {ρ:Ren} {w:World} {a:Act} {Q:Exit→Act→World→Prop} (hr:HRel ρ h w) (hf:FRel ρ fr a)
  (k: ∀ a' w' ρ',Post ρ h w ρ' h' w'→FRel ρ' fr' a'→Marks w.heap.size ρ' h' w' a'.defers a.defers→(b=none→a'.defers=a.defers)→Q ex.conv a' w') {J:Act→World→Prop}
  (hJ: ∀ f1 h1,exec E m (.loop vt) f1 h1=some (ex,fr',h')→ ∀ (a1:Act) (w1:World) (ρ1:Ren),HRel ρ1 h1 w1→FRel ρ1 f1 a1→(∀ a' w' ρ',Post ρ1 h1 w1 ρ' h' w'→FRel ρ' fr' a'→Marks w1.heap.size ρ' h' w' a'.defers a1.defers→(b=none→a'.defers=a1.defers)→Q ex.conv a' w')→J a1 w1):y.wpIn (W ro) 0 P (Exit.jumpV l J Q) a w:=by
 simp only [exec] at he
 split at he
 ·rename_i f1 h1 he1
  refine tail_sound ih hro y vt hvt hk m hm fr f1 h h1 .normal he1 ρ w a _ hr hf fun a1 w1 ρ1 hp1 hf1 hd1 hz1=> ?_
  rw [if_pos rfl]
  exact ⟨rfl,hJ f1 h1 he a1 w1 ρ1 hp1.hrel hf1 fun a2 w2 ρ2 hp2 hf2 hd2 hz2=>k a2 w2 ρ2 (hp1.trans hp2 hr) hf2 (hd1.trans hp1.hrel hp2 hp1.size hd2) fun hb=>(hz2 hb).trans (hz1 hb)⟩
 ·rename_i hne
  refine tail_sound ih hro y vt hvt hk m hm fr fr' h h' ex he ρ w a _ hr hf fun a1 w1 ρ1 hp1 hf1 hd1 hz1=> ?_
  have:=k a1 w1 ρ1 hp1 hf1 hd1 hz1
  cases ex with
  |normal=>exact absurd he (hne _ _)
  |exit i=>exact this
  |ret=>exact this
theorem jumps_sound (ih:CodesOk P E n) (hro:b≠none→ro=none) {l:Nat} {y:Code} {vt:VC} (hvt:cTail P b l y=some vt) (hk:vt.known E) {Q:Exit→Act→World→Prop}: ∀ (m:Nat),m≤n→ ∀ (fr fr':List Val) (h h':Heap) (ex:Ex),exec E m (.loop vt) fr h=some (ex,fr',h')→ ∀ (a:Act) (w:World) (ρ:Ren),HRel ρ h w→FRel ρ fr a→
  (∀ a' w' ρ',Post ρ h w ρ' h' w'→FRel ρ' fr' a'→Marks w.heap.size ρ' h' w' a'.defers a.defers→(b=none→a'.defers=a.defers)→Q ex.conv a' w')→Code.jumpsV (W ro) 0 P (.seq .skip y) l Q m a w:=by
 intro m
 induction m with
 |zero=>intro _ fr fr' h h' ex he;simp [exec] at he
 |succ m ihm=>
  intro hm fr fr' h h' ex he a w ρ hr hf k
  show (Code.seq .skip y).wpIn (W ro) 0 P (Exit.jumpV l (Code.jumpsV (W ro) 0 P (.seq .skip y) l Q m) Q) a w
  refine wpIn_seq (wpIn_skip ?_)
  show y.wpIn (W ro) 0 P (Exit.jumpV l (Code.jumpsV (W ro) 0 P (.seq .skip y) l Q m) Q) a w
  exact jump_round ih hro hvt hk (by omega) he hr hf k fun f1 h1 he1 a1 w1 ρ1 hr1 hf1 k1=>ihm (by omega) f1 fr' h1 h' ex he1 a1 w1 ρ1 hr1 hf1 k1
theorem scope_sound (ih:CodesOk P E n) (hro:b≠none→ro=none): ∀ (c:Code) (l:Nat) (vs:VC),cScope P b c=some (l,vs)→vs.known E→ ∃ y,findLabel c l=some (.seq .skip y)∧ ∀ m,m≤n→ ∀ (fr fr':List Val) (h h':Heap) (ex:Ex),exec E m vs fr h=some (ex,fr',h')→ ∀ (ρ:Ren) (w:World) (a:Act) (Q:Exit→Act→World→Prop),HRel ρ h w→FRel ρ fr a→
  (∀ a' w' ρ',Post ρ h w ρ' h' w'→FRel ρ' fr' a'→Marks w.heap.size ρ' h' w' a'.defers a.defers→(b=none→a'.defers=a.defers)→Q ex.conv a' w')→c.wpIn (W ro) 0 P (Exit.jumpV l (fun a w=> ∃ m,Code.jumpsV (W ro) 0 P (.seq .skip y) l Q m a w) Q) a w:=by
 intro c
 induction c with
 |seq x y _ ihy=>
  intro l vs hc hk
  rcases cScope_cases hc with ⟨l',y',v,e,h1,e2⟩|⟨x',y',vx,l',vy,e,hx,h1,h2,h3,e2⟩
  ·cases e;cases e2
   refine ⟨y,by simp [findLabel],fun m hm fr fr' h h' ex he ρ w a Q hr hf k=>wpIn_seq (wpIn_label ?_)⟩
   show y.wpIn (W ro) 0 P (Exit.jumpV l (fun a w=> ∃ m,Code.jumpsV (W ro) 0 P (.seq .skip y) l Q m a w) Q) a w
   cases m with
   |zero=>simp [exec] at he
   |succ m=>exact jump_round ih hro h1 hk (by omega) he hr hf k fun f1 h1' he1 a1 w1 ρ1 hr1 hf1 k1=>⟨m,jumps_sound ih hro h1 hk m (by omega) f1 fr' h1' h' ex he1 a1 w1 ρ1 hr1 hf1 k1⟩
  ·cases e;cases e2
   obtain ⟨z,hz1,hz2⟩:=ihy l vy h2 hk.2
   refine ⟨z,by simp [findLabel,h3,hz1],fun m hm fr fr' h h' ex he ρ w a Q hr hf k=>wpIn_seq ?_⟩
   cases m with
   |zero=>simp [exec] at he
   |succ m=>
    simp only [exec] at he
    split at he
    ·rename_i f1 h1' he1
     refine ih m (by omega) x vx b ro fr f1 h h1' .normal h1 hk.1 hro he1 ρ w a _ hr hf fun a1 w1 ρ1 hp1 hf1 hd1 hz1=> ?_
     exact hz2 m (by omega) f1 fr' h1' h' ex he ρ1 w1 a1 Q hp1.hrel hf1 fun a2 w2 ρ2 hp2 hf2 hd2 hz2=>k a2 w2 ρ2 (hp1.trans hp2 hr) hf2 (hd1.trans hp1.hrel hp2 hp1.size hd2) fun hb=>(hz2 hb).trans (hz1 hb)
    ·rename_i hne
     refine ih m (by omega) x vx b ro fr fr' h h' ex h1 hk.1 hro he ρ w a _ hr hf fun a1 w1 ρ1 hp1 hf1 hd1 hz1=> ?_
     have:=k a1 w1 ρ1 hp1 hf1 hd1 hz1
     cases ex with
     |normal=>exact absurd he (hne _ _)
     |exit i=>exact this
     |ret=>exact this
 |_=>intro l vs hc;simp [cScope] at hc
theorem go_sound (ih:CodesOk P E n) (hro:b≠none→ro=none): ∀ (c:Code) (vc:VC),cGo P b c=some vc→vc.known E→ ∀ m,m≤n→ ∀ (fr fr':List Val) (h h':Heap) (ex:Ex),exec E m vc fr h=some (ex,fr',h')→CodeOk P (b=none) ro c fr h ex fr' h':=by
 intro c
 induction c with
 |seq x y _ ihy=>
  intro vc hc hk m hm fr fr' h h' ex he ρ w a Q hr hf k
  simp only [cGo] at hc
  split at hc
  ·rename_i vx vy hvx hvy
   cases hc
   cases m with
   |zero=>simp [exec] at he
   |succ m=>
    simp only [exec] at he
    refine wpIn_seq ?_
    split at he
    ·rename_i f1 h1 he1
     refine ih m (by omega) x vx b ro fr f1 h h1 .normal hvx hk.1 hro he1 ρ w a _ hr hf fun a1 w1 ρ1 hp1 hf1 hd1 hz1=> ?_
     exact ihy vy hvy hk.2 m (by omega) f1 fr' h1 h' ex he ρ1 w1 a1 Q hp1.hrel hf1 fun a2 w2 ρ2 hp2 hf2 hd2 hz2=>k a2 w2 ρ2 (hp1.trans hp2 hr) hf2 (hd1.trans hp1.hrel hp2 hp1.size hd2) fun hb=>(hz2 hb).trans (hz1 hb)
    ·rename_i hne
     refine ih m (by omega) x vx b ro fr fr' h h' ex hvx hk.1 hro he ρ w a _ hr hf fun a1 w1 ρ1 hp1 hf1 hd1 hz1=> ?_
     have:=k a1 w1 ρ1 hp1 hf1 hd1 hz1
     cases ex with
     |normal=>exact absurd he (hne _ _)
     |exit i=>exact this
     |ret=>exact this
  ·cases hc
 |scope x _=>
  intro vc hc hk m hm fr fr' h h' ex he ρ w a Q hr hf k
  simp only [cGo,Option.map_eq_some_iff] at hc
  obtain ⟨⟨l,vs⟩,h1,rfl⟩:=hc
  obtain ⟨y,h2,h3⟩:=scope_sound ih hro x l vs h1 hk
  exact wpIn_scope_jumpsV h2 (h3 m hm fr fr' h h' ex he ρ w a Q hr hf k)
 |_=>intro vc hc;simp [cGo] at hc
theorem body_sound (ih:CodesOk P E n) {c:Code} {vc:VC} (hc:cCode P b c=some vc∨cGo P b c=some vc) (hk:vc.known E) (hro:b≠none→ro=none) {fr fr':List Val} {h h':Heap} {ex:Ex} (he:exec E n vc fr h=some (ex,fr',h')):CodeOk P (b=none) ro c fr h ex fr' h':=by
 rcases hc with hc|hc
 ·exact ih n (Nat.le_refl n) c vc b ro fr fr' h h' ex hc hk hro he
 ·exact go_sound ih hro c vc hc hk n (Nat.le_refl n) fr fr' h h' ex he
end
theorem exec_sound {P:Program} (hdraw:DrawOk P) {E:Env} (hE:EnvOk P E) (hpe:PrimsExt E): ∀ (n:Nat),
  (∀ (c:Code) (vc:VC) (b:Option Nat) (ro:Option Nat) (fr fr':List Val) (h h':Heap) (ex:Ex),cCode P b c=some vc→vc.known E→(b≠none→ro=none)→exec E n vc fr h=some (ex,fr',h')→CodeOk P (b=none) ro c fr h ex fr' h')∧
  CallSound P (callF E (exec E n)):=by
 have plainK: ∀ (c:Code) (vc:VC),cCode P none c=some vc→vc.known E:=by
  have main: ∀ (c:Code) (vc:VC),cCode P none c=some vc→vc.plain=true:=by
   intro c
   induction c with
   |skip=>intro vc h;simp only [cCode,Option.some.injEq] at h;subst h;rfl
   |region id ops draw=>
    intro vc h
    simp only [cCode] at h
    rcases cRegion_draw h with ⟨_,vl,rfl⟩|⟨_,vl,rfl,_⟩<;>rfl
   |seq x y hx hy=>
    intro vc h
    simp only [cCode] at h
    split at h
    ·rename_i vx vy h1 h2;cases h;simp [VC.plain,hx vx h1,hy vy h2]
    ·cases h
   |cond c x y hx hy=>
    intro vc h
    simp only [cCode] at h
    split at h
    ·rename_i vc vx vy _ h1 h2;cases h;simp [VC.plain,hx vx h1,hy vy h2]
    ·cases h
   |block id x hx=>
    intro vc h
    simp only [cCode,Option.map_eq_some_iff] at h
    obtain ⟨vx,h1,rfl⟩:=h
    simp [VC.plain,hx vx h1]
   |loop x hx=>
    intro vc h
    simp only [cCode,Option.map_eq_some_iff] at h
    obtain ⟨vx,h1,rfl⟩:=h
    simp [VC.plain,hx vx h1]
   |exit id=>intro vc h;simp only [cCode,Option.some.injEq] at h;subst h;rfl
   |ret=>intro vc h;simp only [cCode,Option.some.injEq] at h;subst h;rfl
   |label l=>intro vc h;simp only [cCode,Option.some.injEq] at h;subst h;rfl
   |scope x hx=>intro vc h;simp only [cCode] at h;exact hx vc h
   |rangeFunc=>intro vc h;simp [cCode] at h
   |goto=>intro vc h;simp [cCode] at h
   |refuse=>intro vc h;simp [cCode] at h
  exact fun c vc h=>VC.known_of_plain vc (main c vc h)
 have calls: ∀ (n:Nat),(∀ m,m<n→(∀ (c:Code) (vc:VC) (b:Option Nat) (ro:Option Nat) (fr fr':List Val) (h h':Heap) (ex:Ex),cCode P b c=some vc→vc.known E→(b≠none→ro=none)→exec E m vc fr h=some (ex,fr',h')→CodeOk P (b=none) ro c fr h ex fr' h')∧CallSound P (callF E (exec E m)))→
   (∀ (c:Code) (vc:VC) (b:Option Nat) (ro:Option Nat) (fr fr':List Val) (h h':Heap) (ex:Ex),cCode P b c=some vc→vc.known E→(b≠none→ro=none)→exec E n vc fr h=some (ex,fr',h')→CodeOk P (b=none) ro c fr h ex fr' h')→CallSound P (callF E (exec E n)):=by
  intro n ihl ih f args h v h' hcall
  have ihn:CodesOk P E n:=fun m hm=>by
   rcases Nat.lt_or_ge m n with q|q
   ·exact (ihl m q).1
   ·obtain rfl:m=n:=Nat.le_antisymm hm q
    exact ih
  refine ⟨fun hfb=> ?_,fun r hfr=> ?_⟩
  rotate_left
  ·intro ρ w cargs j o vals fr l ts hargs hr hl hlr hts hv
   subst hfr hargs
   unfold callF at hcall
   have nb: ¬ (big+r<big):=Nat.not_lt.2 (Nat.le_add_right big r)
   have e0:big+r - big=r:=Nat.add_sub_cancel_left big r
   split at hcall
   ·rename_i p hp
    exact absurd (hE.prims _ p hp).1 nb
   ·split at hcall
    ·rename_i vf hvf
     exact absurd (hE.fns _ vf hvf).1 nb
    ·rw [if_neg nb,e0] at hcall
     split at hcall
     ·rename_i rd j' o' vals' fr' hrd hargs
      cases hargs
      refine round_sound hE (fun c vc fr fr' h h' e ro hc he=> ?_) hrd hcall hr hl hlr hts hv
      intro ρ w a Q hr hf k
      exact ih c vc none ro fr fr' h h' e hc (plainK c vc hc) (fun hn=>absurd rfl hn) he ρ w a Q hr hf fun a' w' ρ' p f m d=>k a' w' ρ' p f m fun _=>d rfl
     ·cases hcall
  have enterRel: ∀ (ntmps:Nat) (ρ:Ren) (args:List Val) (cargs:Array Value),VRels ρ args cargs.toList→FRel ρ (enter ntmps args) {tmps:=cargs++Array.replicate (ntmps - cargs.size) Go.undef,defers:=[]}:=by
   intro ntmps ρ args cargs hargs
   unfold FRel enter
   simp only [Array.toList_append,Array.toList_replicate]
   have hl:=hargs.length
   simp only [Array.length_toList] at hl
   rw [hl]
   exact hargs.append (VRels.replicate rel_undef _)
  unfold callF at hcall
  split at hcall
  ·rename_i p hp
   obtain ⟨_,⟨fn,hfn⟩,hs⟩:=hE.prims f p hp
   exact ⟨⟨fn,hfn.at_,hfn.body,hfn.name⟩,hs args h v h' hcall⟩
  ·split at hcall
   rotate_left
   ·rw [if_pos hfb] at hcall
    split at hcall
    rotate_left
    ·cases hcall
    rename_i df hdf
    obtain ⟨_,fn,hfn,hcd⟩:=hE.dfr f df hdf
    refine ⟨⟨fn,hfn.at_,hfn.body,hfn.name⟩,?_⟩
    intro ρ w cargs hr hargs
    unfold cDfn at hcd
    split at hcd
    rotate_left
    ·cases hcd
    rename_i c0 id ops c1 hb
    split at hcd
    rotate_left
    ·cases hcd
    rename_i o hlast
    split at hcd
    rotate_left
    ·cases hcd
    rename_i cl hop
    split at hcd
    rotate_left
    ·cases hcd
    rename_i t hcallee hcargs
    split at hcd
    rotate_left
    ·cases hcd
    rename_i hh
    split at hcd
    rotate_left
    ·cases hcd
    rename_i v0 v1 v2 hv0 hv1 hv2
    cases hcd
    unfold deferF at hcall
    split at hcall
    rotate_left
    ·cases hcall
    rename_i fr1 h1 he1
    split at hcall
    rotate_left
    ·cases hcall
    rename_i g first captured hcl
    split at hcall
    rotate_left
    ·cases hcall
    rename_i vg hpg hvg
    split at hcall
    ·cases hcall
    rotate_left
    ·cases hcall
    rename_i ex2 fr2 h2 hne2 he2
    split at hcall
    ·cases hcall
    rotate_left
    ·cases hcall
    rename_i ex3 fr3 h3 hne3 he3
    split at hcall
    rotate_left
    ·cases hcall
    rename_i l3 l hpl hl3 hl
    cases hcall
    cases n with
    |zero=>simp [exec] at he1
    |succ n=>
    rw [exec] at he1
    have he1': ∃ fr0 h0,exec E n v0 (enter fn.ntmps args) h=some (.normal,fr0,h0)∧exec E n v1 fr0 h0=some (.normal,fr1,h1):=by
     split at he1
     ·rename_i hx;exact ⟨_,_,hx,he1⟩
     ·rename_i hx;exact absurd he1 (hx _ _)
    obtain ⟨fr0,h0,q0,q1⟩:=he1'
    rcases cRegion_draw hv1 with ⟨hd,_⟩|⟨_,vl,rfl,hrel⟩
    ·cases hd
    cases n with
    |zero=>simp [exec] at q0
    |succ n=>
    rw [exec] at q1
    split at q1
    rotate_left
    ·cases q1
    rename_i hrun
    cases q1
    obtain ⟨_,fg,bg,hfg,hcg,hkg⟩:=hE.fns g vg hvg
    refine (callsIn_wide (n:=0)).1 (callsIn_of_wp_marks hfn.at_ hb trivial ?_)
    show Code.wpIn (W none) 0 P (.seq c0 (.seq (.region id ops false) c1)) _ _ _
    refine wpIn_seq ?_
    refine (ihl (n+1) (Nat.lt_succ_self _)).1 c0 v0 none none _ fr0 _ h0 .normal hv0 (plainK _ _ hv0) (fun _=>rfl) q0 ρ w _ _ hr (enterRel fn.ntmps ρ args cargs hargs) fun a0 w0 ρ0 p0 f0 _ d0=> ?_
    have hd0:=d0 rfl
    show Code.wpIn (W none) 0 P (.seq (.region id ops false) c1) _ _ _
    refine wpIn_seq (wpIn_region ?_)
    have hsz:ops.size=ops.pop.size+1:=by
     have:ops≠ #[]:=by rintro rfl;simp at hlast
     rw [Array.size_pop]
     have:=Array.size_pos_iff.2 this
     omega
    have hlo:ops[ops.pop.size]? =some o:=by
     rw [List.getLast?_eq_getElem?] at hlast
     rw [Array.getElem?_toList] at hlast
     rw [Array.size_pop]
     simpa using hlast
    rw [hsz,List.range_succ]
    refine runOps_wpT hE.ty hE.meth (ihl n (by omega)).2 _ vl fr0 _ h0 _ ρ0 w0 a0 (OpsRel.pop _ _ hrel) hrun p0.hrel f0 fun a1 w1 ρ1 p1 f1 d1=> ?_
    have hv:=f1.getD t
    rw [hcl] at hv
    simp only [VRel] at hv
    rcases hv with ⟨hsm,ca,cc,hval,r1,r2⟩|⟨_,_,_,_,_,e,_⟩
    rotate_left
    ·cases e
    obtain ⟨odst,oop,otype,opos,oafter,oguard⟩:=o
    simp only at hop hh
    subst hop
    obtain ⟨hdst,hgu,hres⟩:=hh
    subst hdst hgu
    obtain ⟨callee,oargs,oargT⟩:=cl
    simp only at hcallee hcargs
    subst hcallee
    have hoargs:oargs= #[]:=Array.toList_inj.1 hcargs
    subst hoargs
    simp only [wpOpsIn,hlo]
    have hw:Region.wanted ⟨none,.defer ⟨.value (.tmp t),#[],oargT⟩,otype,opos,oafter,none⟩ (yielded ops a1.tmps)=true:=rfl
    rw [if_pos hw]
    refine ⟨fun _ _=>trivial,?_⟩
    have hrs:(Oper.semAt (W none).round a1.eval ⟨none,.defer ⟨.value (.tmp t),#[],oargT⟩,otype,opos,oafter,none⟩).run P w1=.ok (.defer {target:=.fn (.func g) cc,args:=ca}) w1:=by
     rw [show (W none).round =none from rfl,Oper.semAt_none]
     have hev:a1.eval (.tmp t)=.func (.func g) ca cc:=hval
     simp [execOp,resolve,hev,Deferred.ofValue]
    rw [hrs]
    show Code.wpIn (W none) 0 P c1 _ {a1 with defers:={target:=.fn (.func g) cc,args:=ca}::a1.defers} w1
    refine ih c1 v2 none none fr1 fr2 h1 h2 ex2 hv2 (plainK _ _ hv2) (fun _=>rfl) he2 ρ1 w1 _ _ p1.hrel f1 fun a2 w2 ρ2 p2 f2 _ d2=> ?_
    have hd2:a2.defers=[{target:=.fn (.func g) cc,args:=ca}]:=by rw [d2 rfl];simp [d1,hd0]
    have pall:=(p0.trans p1 hr).trans p2 hr
    have hfin:LeavesInM Fence.wide 0 P fn a2.tmps (fun e w'=> ∃ cv ρ',e=.returned cv∧Post ρ h w ρ' h' w'∧VRel ρ' (resultOf l) cv) a2.defers .returning w2:=by
     rw [hd2]
     refine ⟨by simp,.inr ⟨fun e=>(by cases e),.func g,cc,g,ca++cc,rfl,?_,fun _ _=>trivial,?_⟩⟩
     ·exact run_callFunc hfg.at_ hfg.body hfg.name _ _
     ·unfold cFn at hcg
      split at hcg
      ·cases hcg
      rename_i cg hbg
      split at hcg
      rotate_left
      ·cases hcg
      rename_i hresg
      simp only [Option.map_eq_some_iff] at hcg
      obtain ⟨vcg,hvcg,rfl⟩:=hcg
      have hargs2:VRels ρ2 (first++captured) (ca++cc).toList :=by
       rw [Array.toList_append]
       exact (VRels.mono p2.ext _ _ r1).append (VRels.mono p2.ext _ _ r2)
      have hcp:cCode P none cg=some vcg∨cGo P none cg=some vcg:=(cBody_or hvcg).imp (fun q=>cCode_plain cg vcg q hpl) (fun q=>cGo_plain cg vcg q hpl)
      refine (callsDIn_of_wp (R:=fun e w'=> ∃ cv ρ',e=.returned cv∧Post ρ h w ρ' h' w'∧FRel ρ' fr2 a2) hfg.at_ hbg trivial ?_).mono ?_
      ·show Code.wpIn (W none) 0 P cg _ _ _
       refine body_sound ihn hcp (VC.known_of_plain vcg hpl) (fun _=>rfl) he3 ρ2 w2 _ _ p2.hrel (enterRel fg.ntmps ρ2 _ _ hargs2) fun a3 w3 ρ3 p3 f3 _ d3=> ?_
       obtain ⟨cv3,hcv3,_⟩:=results_run (P:=P) p3.hrel f3 hresg hl3
       have goal:a3.defers=[]∧ ∃ v,(results fg a3.tmps).run P w3=.ok v w3∧ ∃ cv ρ',Ending.returned v=.returned cv∧Post ρ h w ρ' h' w3∧FRel ρ' fr2 a2:=
        ⟨d3 rfl,cv3,hcv3,cv3,ρ3,rfl,pall.trans p3 hr,f2.mono p3.ext⟩
       cases ex3 with
       |normal=>exact goal
       |ret=>exact goal
       |exit i=>exact (hne3 i rfl).elim
      ·rintro e u' w3 ⟨rfl,cv,ρ3,rfl,p3,f3⟩
       obtain ⟨cv3,hcv3,hv3⟩:=results_run (P:=P) p3.hrel f3 hres hl
       exact ⟨cv3,hcv3,cv3,ρ3,rfl,p3,hv3⟩
    cases ex2 with
    |normal=>exact hfin
    |ret=>exact hfin
    |exit i=>exact (hne2 i rfl).elim
   ·rename_i vf hvf
    obtain ⟨_,fn,b,hfn,hcf,hkn⟩:=hE.fns f vf hvf
    refine ⟨⟨fn,hfn.at_,hfn.body,hfn.name⟩,?_⟩
    intro ρ w cargs hr hargs
    unfold cFn at hcf
    split at hcf
    ·cases hcf
    ·rename_i c hb
     split at hcf
     ·rename_i hres
      simp only [Option.map_eq_some_iff] at hcf
      obtain ⟨vc,hvc,rfl⟩:=hcf
      have hfr:=enterRel fn.ntmps ρ args cargs hargs
      split at hcall
      ·cases hcall
      ·rename_i ex fr h2 hne hex
       split at hcall
       ·rename_i l hl
        cases hcall
        refine (callsIn_wide (n:=0)).1 (callsIn_of_wp_marks hfn.at_ hb trivial ?_)
        show Code.wpIn (W none) 0 P c _ _ _
        refine body_sound ihn (cBody_or hvc) hkn (fun _=>rfl) hex ρ w _ _ hr hfr ?_
        intro a' w' ρ' hp hf hm _
        obtain ⟨rs,m1,m2,m3⟩:=hm
        rw [List.append_nil] at m2
        have hfin:LeavesInM Fence.wide 0 P fn a'.tmps (fun e w'=> ∃ cv ρ',e=.returned cv∧Post ρ h w ρ' h' w'∧VRel ρ' (resultOf l) cv) a'.defers .returning w':=by
         rw [m2]
         refine leave_marks rs w' m1 m3 hp fun w'' hp=> ?_
         obtain ⟨cv,hmA,hv⟩:=results_run (P:=P) hp.hrel hf hres hl
         exact ⟨_,hmA,_,ρ',rfl,hp,hv⟩
        cases ex with
        |normal=>exact hfin
        |ret=>exact hfin
        |exit i=>exact (hne i rfl).elim
       ·cases hcall
      ·cases hcall
     ·cases hcf
 intro n
 induction n using Nat.strongRecOn with
 |_ n ihs=>
 cases n with
 |zero=>
  have h0: ∀ (c:Code) (vc:VC) (b:Option Nat) (ro:Option Nat) (fr fr':List Val) (h h':Heap) (ex:Ex),cCode P b c=some vc→vc.known E→(b≠none→ro=none)→exec E 0 vc fr h=some (ex,fr',h')→CodeOk P (b=none) ro c fr h ex fr' h':=by
   intro c vc b ro fr fr' h h' ex _ _ _ he
   simp [exec] at he
  exact ⟨h0,calls 0 (fun m hm=>by omega) h0⟩
 |succ n=>
  obtain ⟨ihx,ihc⟩:=ihs n (Nat.lt_succ_self n)
  have hx: ∀ (c:Code) (vc:VC) (b:Option Nat) (ro:Option Nat) (fr fr':List Val) (h h':Heap) (ex:Ex),cCode P b c=some vc→vc.known E→(b≠none→ro=none)→exec E (n+1) vc fr h=some (ex,fr',h')→CodeOk P (b=none) ro c fr h ex fr' h':=by
   intro c
   induction c with
   |skip=>
    intro vc b ro fr fr' h h' ex hc _ hro he ρ w a Q hr hf k
    simp only [cCode,Option.some.injEq] at hc;subst hc
    simp only [exec,Option.some.injEq,Prod.mk.injEq] at he
    obtain ⟨rfl,rfl,rfl⟩:=he
    exact wpIn_skip (k a w ρ (.refl hr) hf (.refl rfl) fun _=>rfl)
   |region id ops draw=>
    intro vc b ro fr fr' h h' ex hc _ hro he ρ w a Q hr hf k
    simp only [cCode] at hc
    rcases cRegion_draw hc with ⟨rfl,vl,rfl⟩|⟨rfl,vl,rfl,hrel⟩
    ·simp only [exec] at he
     split at he
     ·rename_i f2 h2 hrun
      cases he
      exact hdraw hE.ty ro E.meth hE.meth _ ihc (exec_ext hpe n).2 id ops vl fr _ h _ ρ w a Q hc hrun hr hf fun a' w' ρ' p f d=>k a' w' ρ' p f (.refl d) fun _=>d
     ·cases he
    ·simp only [exec] at he
     split at he
     ·rename_i f2 h2 hrun
      cases he
      exact wpIn_region (runOps_wp hE.ty hE.meth ihc _ vl fr _ h _ ρ w a hrel hrun hr hf fun a' w' ρ' p f d=>k a' w' ρ' p f (.refl d) fun _=>d)
     ·cases he
   |seq x y ihx' ihy'=>
    intro vc b ro fr fr' h h' ex hc hk hro he ρ w a Q hr hf k
    simp only [cCode] at hc
    split at hc
    ·rename_i vx vy hvx hvy
     cases hc
     simp only [exec] at he
     refine wpIn_seq ?_
     split at he
     ·rename_i f1 h1 he1
      refine ihx x vx b ro fr f1 h h1 .normal hvx hk.1 hro he1 ρ w a _ hr hf fun a1 w1 ρ1 hp1 hf1 hd1 hz1=> ?_
      exact ihx y vy b ro f1 fr' h1 h' ex hvy hk.2 hro he ρ1 w1 a1 Q hp1.hrel hf1 fun a2 w2 ρ2 hp2 hf2 hd2 hz2=>k a2 w2 ρ2 (hp1.trans hp2 hr) hf2 (hd1.trans hp1.hrel hp2 hp1.size hd2) fun hb=>(hz2 hb).trans (hz1 hb)
     ·rename_i hne
      refine ihx x vx b ro fr fr' h h' ex hvx hk.1 hro he ρ w a _ hr hf fun a1 w1 ρ1 hp1 hf1 hd1 hz1=> ?_
      have:=k a1 w1 ρ1 hp1 hf1 hd1 hz1
      cases ex with
      |normal=>exact absurd he (hne _ _)
      |exit i=>exact this
      |ret=>exact this
    ·cases hc
   |cond cnd x y ihx' ihy'=>
    intro vc b ro fr fr' h h' ex hc hk hro he ρ w a Q hr hf k
    simp only [cCode] at hc
    split at hc
    ·rename_i vcn vx vy hvc hvx hvy
     cases hc
     simp only [exec] at he
     have hv:=hf.ev hvc
     split at he
     ·rename_i e1
      rw [e1] at hv
      simp only [VRel] at hv
      exact wpIn_cond_true hv (ihx x vx b ro fr fr' h h' ex hvx hk.1 hro he ρ w a Q hr hf k)
     ·rename_i e1
      rw [e1] at hv
      simp only [VRel] at hv
      exact wpIn_cond_false hv (ihx y vy b ro fr fr' h h' ex hvy hk.2 hro he ρ w a Q hr hf k)
     ·cases he
    ·cases hc
   |block id x ihx'=>
    intro vc b ro fr fr' h h' ex hc hk hro he ρ w a Q hr hf k
    simp only [cCode,Option.map_eq_some_iff] at hc
    obtain ⟨vx,hvx,rfl⟩:=hc
    simp only [exec] at he
    refine wpIn_block ?_
    split at he
    ·rename_i i f1 h1 he1
     refine ihx x vx b ro fr f1 h h1 (.exit i) hvx hk hro he1 ρ w a _ hr hf fun a1 w1 ρ1 hp1 hf1 hd1 hz1=> ?_
     simp only [Ex.conv,Exit.inBlock]
     split at he
     ·rename_i hi
      cases he
      rw [if_pos hi]
      exact k a1 w1 ρ1 hp1 hf1 hd1 hz1
     ·rename_i hi
      cases he
      rw [if_neg hi]
      exact k a1 w1 ρ1 hp1 hf1 hd1 hz1
    ·rename_i hne
     refine ihx x vx b ro fr fr' h h' ex hvx hk hro he ρ w a _ hr hf fun a1 w1 ρ1 hp1 hf1 hd1 hz1=> ?_
     have:=k a1 w1 ρ1 hp1 hf1 hd1 hz1
     cases ex with
     |normal=>exact this
     |exit i=>exact absurd he (hne _ _ _)
     |ret=>exact this
   |loop x ihx'=>
    intro vc b ro fr fr' h h' ex hc hk hro he ρ w a Q hr hf k
    simp only [cCode,Option.map_eq_some_iff] at hc
    obtain ⟨vx,hvx,rfl⟩:=hc
    have rounds: ∀ (m:Nat),m≤n+1→ ∀ (fr fr':List Val) (h h':Heap) (ex:Ex),exec E m (.loop vx) fr h=some (ex,fr',h')→ ∀ (ρ:Ren) (w:World) (a:Act),HRel ρ h w→FRel ρ fr a→
      (∀ a' w' ρ',Post ρ h w ρ' h' w'→FRel ρ' fr' a'→Marks w.heap.size ρ' h' w' a'.defers a.defers→(b=none→a'.defers=a.defers)→Q ex.conv a' w')→Code.roundsIn (W ro) 0 P x Q m a w:=by
     intro m
     induction m with
     |zero=>intro _ fr fr' h h' ex he;simp [exec] at he
     |succ m ihm=>
      intro hm fr fr' h h' ex he ρ w a hr hf k
      rw [roundsIn_succ]
      simp only [exec] at he
      have ihb:=(ihs m (by omega)).1
      split at he
      ·rename_i f1 h1 he1
       refine ihb x vx b ro fr f1 h h1 .normal hvx hk hro he1 ρ w a _ hr hf fun a1 w1 ρ1 hp1 hf1 hd1 hz1=> ?_
       exact ihm (by omega) f1 fr' h1 h' ex he ρ1 w1 a1 hp1.hrel hf1 fun a2 w2 ρ2 hp2 hf2 hd2 hz2=>k a2 w2 ρ2 (hp1.trans hp2 hr) hf2 (hd1.trans hp1.hrel hp2 hp1.size hd2) fun hb=>(hz2 hb).trans (hz1 hb)
      ·rename_i hne
       refine ihb x vx b ro fr fr' h h' ex hvx hk hro he ρ w a _ hr hf fun a1 w1 ρ1 hp1 hf1 hd1 hz1=> ?_
       have:=k a1 w1 ρ1 hp1 hf1 hd1 hz1
       cases ex with
       |normal=>exact absurd he (hne _ _)
       |exit i=>exact this
       |ret=>exact this
    exact wpIn_loop_rounds (n+1) (rounds (n+1) (Nat.le_refl _) fr fr' h h' ex he ρ w a hr hf k)
   |exit id=>
    intro vc b ro fr fr' h h' ex hc _ hro he ρ w a Q hr hf k
    simp only [cCode,Option.some.injEq] at hc;subst hc
    simp only [exec,Option.some.injEq,Prod.mk.injEq] at he
    obtain ⟨rfl,rfl,rfl⟩:=he
    exact wpIn_exit (k a w ρ (.refl hr) hf (.refl rfl) fun _=>rfl)
   |ret=>
    intro vc b ro fr fr' h h' ex hc _ hro he ρ w a Q hr hf k
    simp only [cCode,Option.some.injEq] at hc;subst hc
    simp only [exec,Option.some.injEq,Prod.mk.injEq] at he
    obtain ⟨rfl,rfl,rfl⟩:=he
    exact wpIn_ret (k a w ρ (.refl hr) hf (.refl rfl) fun _=>rfl)
   |label l=>
    intro vc b ro fr fr' h h' ex hc _ hro he ρ w a Q hr hf k
    simp only [cCode,Option.some.injEq] at hc;subst hc
    simp only [exec,Option.some.injEq,Prod.mk.injEq] at he
    obtain ⟨rfl,rfl,rfl⟩:=he
    exact wpIn_label (k a w ρ (.refl hr) hf (.refl rfl) fun _=>rfl)
   |scope x ihx'=>
    intro vc b ro fr fr' h h' ex hc hk hro he ρ w a Q hr hf k
    simp only [cCode] at hc
    refine wpIn_scope_straightV (ihx' vc b ro fr fr' h h' ex hc hk hro he ρ w a _ hr hf fun a1 w1 ρ1 hp1 hf1 hd1 hz1=> ?_)
    have:=k a1 w1 ρ1 hp1 hf1 hd1 hz1
    cases ex<;>exact this
   |rangeFunc g ps x y _ _=>
    intro vc b ro fr fr' h h' ex hc hk hro he
    simp only [cCode] at hc
    split at hc
    ·rename_i kb vg vx vy hg hvx hvy
     cases hc
     cases hro (by simp)
     simp only [VC.known] at hk
     have hrd:Gd.rd (kb+firstId x) ps x y:=(hE.rd _ _ _ _).2 ⟨_,hk,by simp [cRnd,hvx,hvy]⟩
     simp only [exec] at he
     split at he
     ·rename_i f first captured hev
      split at he
      ·rename_i v h1 hcall
       split at he
       ·rename_i hfl
        intro ρ w a Q hr hf k
        exact range_wp ihc hg hrd hev hcall hfl he ρ w a Q hr hf fun a' w' ρ' p f m _=>k a' w' ρ' p f m fun hb=>by cases hb
       ·cases he
      ·cases he
     ·cases he
    ·cases hc
   |goto=>intro vc b ro fr fr' h h' ex hc;simp [cCode] at hc
   |refuse=>intro vc b ro fr fr' h h' ex hc;simp [cCode] at hc
  exact ⟨hx,calls (n+1) (fun m hm=>ihs m hm) hx⟩
end Go.V
end
section
namespace Go.V
variable [Gd]
theorem fold_bit (acc:Array Nat) (j:Nat): ∀ (l:List Edge) (s:Nat),(l.foldl (fun s e=>if Region.binds .any e then s|||2^e.on|||acc.getD e.on 0 else s) s).testBit j=true→
  s.testBit j=true∨ ∃ e∈l,Region.binds .any e=true∧(e.on=j∨(acc.getD e.on 0).testBit j=true)
 |[],s,h=>.inl (by simpa using h)
 |e::l,s,h=>by
  simp only [List.foldl_cons] at h
  rcases fold_bit acc j l _ h with h1|⟨e',h1,h2⟩
  ·split at h1
   ·rename_i hb
    simp only [Nat.testBit_or,Bool.or_eq_true] at h1
    rcases h1 with (h1|h1)|h1
    ·exact .inl h1
    ·exact .inr ⟨e,by simp,hb,.inl (by rw [Nat.testBit_two_pow] at h1;simpa using h1)⟩
    ·exact .inr ⟨e,by simp,hb,.inr h1⟩
   ·exact .inl h1
  ·exact .inr ⟨e',by simp [h1],h2⟩
def beforeStep (acc:Array Nat) (o:Oper):Array Nat:=acc.push (o.after.foldl (fun s e=>if Region.binds .any e then s|||2^e.on|||acc.getD e.on 0 else s) 0)
theorem before_list: ∀ (l pre:List Oper) (acc:Array Nat),acc.size=pre.length→
  (∀ i j,(acc.getD i 0).testBit j=true→ ∃ o,pre[i]? =some o∧ ∃ e∈o.after,Region.binds .any e=true∧(e.on=j∨(acc.getD e.on 0).testBit j=true))→
  ∀ i j,((l.foldl beforeStep acc).getD i 0).testBit j=true→ ∃ o,(pre++l)[i]? =some o∧ ∃ e∈o.after,Region.binds .any e=true∧(e.on=j∨((l.foldl beforeStep acc).getD e.on 0).testBit j=true)
 |[],pre,acc,_,h,i,j,hb=>by simpa using h i j hb
 |o::l,pre,acc,hs,h,i,j,hb=>by
  have hacc: ∀ k v,(acc.getD k 0).testBit v=true→((beforeStep acc o).getD k 0).testBit v=true:=by
   intro k v hk
   have hlt:k<acc.size:=by
    rcases Nat.lt_or_ge k acc.size with h1|h1
    ·exact h1
    ·rw [Array.getD_eq_getD_getElem?,Array.getElem?_eq_none h1] at hk;simp at hk
   unfold beforeStep
   rw [Array.getD_eq_getD_getElem?,Array.getElem?_push,if_neg (by omega),←Array.getD_eq_getD_getElem?]
   exact hk
  have:=before_list l (pre++[o]) (beforeStep acc o) (by simp [beforeStep,hs]) ?_ i j hb
  ·simpa using this
  ·intro i j hb
   unfold beforeStep at hb
   rw [Array.getD_eq_getD_getElem?,Array.getElem?_push] at hb
   split at hb
   ·rename_i hi
    simp only [Option.getD_some] at hb
    rw [←Array.foldl_toList] at hb
    rcases fold_bit acc j o.after.toList 0 hb with h1|⟨e,he,h1,h2⟩
    ·simp at h1
    ·refine ⟨o,by rw [List.getElem?_append_right (by omega)];simp [hi,hs],e,by simpa using he,h1,?_⟩
     rcases h2 with h2|h2
     ·exact .inl h2
     ·exact .inr (hacc _ _ h2)
   ·rename_i hi
    rw [←Array.getD_eq_getD_getElem?] at hb
    obtain ⟨o',h1,e,he,h2,h3⟩:=h i j hb
    refine ⟨o',by rw [List.getElem?_append_left (List.getElem?_eq_some_iff.1 h1).1];exact h1,e,he,h2,?_⟩
    rcases h3 with h3|h3
    ·exact .inl h3
    ·exact .inr (hacc _ _ h3)
theorem before_spec (ops:Array Oper) (i j:Nat) (h:((Region.before ops).getD i 0).testBit j=true):
  ∃ o,ops[i]? =some o∧ ∃ e∈o.after,Region.binds .any e=true∧(e.on=j∨((Region.before ops).getD e.on 0).testBit j=true):=by
 have e:Region.before ops=ops.toList.foldl beforeStep #[]:=by
  unfold Region.before
  rw [←Array.foldl_toList]
  rfl
 rw [e] at h ⊢
 have:=before_list ops.toList [] #[] rfl (by intro i j h;simp at h) i j h
 simpa using this
theorem edgesOk_get: ∀ (l:List Oper) (k:Nat),edgesOk l k=true→ ∀ i o,l[i]? =some o→ ∀ e∈o.after,Region.binds .any e=true→e.on<k+i
 |[],k,_,i,o,h=>by simp at h
 |x::l,k,hok,i,o,h=>by
  simp only [edgesOk,Bool.and_eq_true] at hok
  cases i with
  |zero=>
   simp at h;subst h
   intro e he hb
   have:=List.all_eq_true.1 hok.1 e (by simpa using he)
   simp [hb] at this
   omega
  |succ i=>
   intro e he hb
   have:=edgesOk_get l (k+1) hok.2 i o (by simpa using h) e he hb
   omega
theorem writersOf_mem: ∀ (l:List VOper) (k i:Nat) (v:VOper) (d:Nat),l[i]? =some v→v.dst=some d→(d,k+i)∈writersOf l k
 |[],k,i,v,d,h,_=>by simp at h
 |x::l,k,i,v,d,h,hd=>by
  cases i with
  |zero=>
   simp at h;subst h
   simp [writersOf,hd]
  |succ i=>
   have:=writersOf_mem l (k+1) i v d (by simpa using h) hd
   have e:k+1+i=k+(i+1):=by omega
   rw [e] at this
   simp only [writersOf]
   split
   ·exact List.mem_cons_of_mem _ this
   ·exact this
theorem tmpsOk_get {b:Array Nat} {ws:List (Nat×Nat)}: ∀ (l:List Oper) (vl:List VOper) (k:Nat),tmpsOk b ws l vl k=true→ ∀ i o v,l[i]? =some o→vl[i]? =some v→ ∀ t∈namesOf o v,∀ d j,(d,j)∈ws→d=t→j=k+i∨(b.getD (max j (k+i)) 0).testBit (min j (k+i))=true
 |[],vl,k,_,i,o,v,h,_=>by simp at h
 |x::l,[],k,hok,_,_,_,_,h=>by simp at h
 |x::l,y::vl,k,hok,i,o,v,h1,h2=>by
  simp only [tmpsOk,Bool.and_eq_true] at hok
  cases i with
  |zero=>
   simp at h1 h2;subst h1 h2
   intro t ht d j hj hd
   have h3:=List.all_eq_true.1 hok.1 t ht
   have h4:=List.all_eq_true.1 h3 (d,j) hj
   simp [hd] at h4
   rcases h4 with h4|h4
   ·exact .inl h4
   ·exact .inr (by simpa using h4)
  |succ i=>
   intro t ht d j hj hd
   have:=tmpsOk_get l vl (k+1) hok.2 i o v (by simpa using h1) (by simpa using h2) t ht d j hj hd
   have e:k+1+i=k+(i+1):=by omega
   rw [e] at this
   exact this
theorem touching_mem: ∀ (vs:List VOp) (k j:Nat),j∈touching vs k↔ ∃ i v,vs[i]? =some v∧v.kind≠0∧j=k+i
 |[],k,j=>by simp [touching]
 |x::vs,k,j=>by
  simp only [touching]
  have ih:=touching_mem vs (k+1) j
  constructor
  ·intro h
   split at h
   ·obtain ⟨i,v,h1,h2,h3⟩:=ih.1 h
    exact ⟨i+1,v,by simpa using h1,h2,by omega⟩
   ·rename_i hx
    cases h with
    |head=>exact ⟨0,x,by simp,hx,by omega⟩
    |tail _ h=>
     obtain ⟨i,v,h1,h2,h3⟩:=ih.1 h
     exact ⟨i+1,v,by simpa using h1,h2,by omega⟩
  ·rintro ⟨i,v,h1,h2,h3⟩
   cases i with
   |zero=>
    simp at h1;subst h1
    rw [if_neg h2]
    simp at h3;subst h3;simp
   |succ i=>
    have:=ih.2 ⟨i,v,by simpa using h1,h2,by omega⟩
    split
    ·exact this
    ·exact List.mem_cons_of_mem _ this
theorem cOpers_get {ops:Array Oper} {b:Array Nat} {ts:List Nat}: ∀ (l:List Oper) (vs:List VOp) (k:Nat) (vl:List VOper),cOpers ops b ts l vs k=some vl→l.length=vl.length∧vs.length=vl.length∧ ∀ i o v,l[i]? =some o→vs[i]? =some v→ ∃ vo,vl[i]? =some vo∧vo.op=v∧vo.dst=o.dst∧cGuard ops o.guard=some vo.guard∧
   (vo.full=true→ ∀ j∈ts,j=k+i∨(j<k+i∧(b.getD (k+i) 0).testBit j=true)∨(k+i<j∧(b.getD j 0).testBit (k+i)=true))∧
   (∀ j∈ts,j<k+i→(b.getD (k+i) 0).testBit j=false→j∈vo.hide)
 |[],[],k,vl,h=>by simp only [cOpers,Option.some.injEq] at h;subst h;simp
 |o::r,v::rv,k,vl,h=>by
  simp only [cOpers] at h
  split at h
  ·rename_i g l hg hl
   cases h
   obtain ⟨h1,h2,h3⟩:=cOpers_get r rv (k+1) l hl
   refine ⟨by simp [h1],by simp [h2],?_⟩
   intro i o' v' e1 e2
   cases i with
   |zero=>
    simp at e1 e2;subst e1 e2
    refine ⟨_,by simp;rfl,rfl,rfl,hg,?_,?_⟩
    ·intro hf j hj
     have:=List.all_eq_true.1 hf j hj
     simp only [Nat.add_zero]
     by_cases hjk:j=k
     ·exact .inl hjk
     ·right
      simp only [beq_iff_eq,hjk,Bool.or_eq_true,false_or] at this
      split at this
      ·rename_i hlt;exact .inl ⟨hlt,by simpa using this⟩
      ·rename_i hlt;exact .inr ⟨by omega,by simpa using this⟩
    ·intro j hj hlt hbit
     simp only [Nat.add_zero] at hlt hbit
     simp only [List.mem_filter,Bool.and_eq_true,decide_eq_true_eq,Bool.not_eq_true']
     exact ⟨hj,hlt,by simpa using hbit⟩
   |succ i=>
    obtain ⟨vo,q1,q2,q3,q4,q5,q6⟩:=h3 i o' v' (by simpa using e1) (by simpa using e2)
    have e:k+1+i=k+(i+1):=by omega
    rw [e] at q5 q6
    exact ⟨vo,by simpa using q1,q2,q3,q4,q5,q6⟩
  ·cases h
 |[],_::_,_,_,h=>by simp [cOpers] at h
 |_::_,[],_,_,h=>by simp [cOpers] at h
omit [Gd] in
theorem ev_congr {fr fr':List Val} {x:Opd} (h: ∀ t∈x.tmp,fr.getD t .undef =fr'.getD t .undef):V.ev fr x=V.ev fr' x:=by
 cases x with
 |t n=>exact h n (by simp [Opd.tmp])
 |c v=>rfl
omit [Gd] in
theorem evs_congr {fr fr':List Val}: ∀ {l:List Opd},(∀ t∈l.flatMap Opd.tmp,fr.getD t .undef =fr'.getD t .undef)→V.evs fr l=V.evs fr' l
 |[],_=>rfl
 |x::l,h=>by
  simp only [List.flatMap_cons,List.mem_append] at h
  simp only [V.evs,ev_congr fun t ht=>h t (.inl ht),evs_congr fun t ht=>h t (.inr ht)]
omit [Gd] in
theorem fill_congr {fr fr':List Val}: ∀ {l:List (Nat×Nat×Opd)} {c:List Val},(∀ t∈l.flatMap (fun p=>p.2.2.tmp),fr.getD t .undef =fr'.getD t .undef)→V.fill fr c l=V.fill fr' c l
 |[],_,_=>rfl
 |(o,n,x)::l,c,h=>by
  simp only [List.flatMap_cons,List.mem_append] at h
  have e1:=ev_congr (x:=x) fun t ht=>h t (.inl ht)
  simp only [V.fill,e1,fill_congr fun t ht=>h t (.inr ht)]
omit [Gd] in
theorem bnd_congr {fr fr':List Val} {x:Opd} (h: ∀ t∈x.tmp,fr.getD t .undef =fr'.getD t .undef) (y:Nat):bnd fr y x=bnd fr' y x:=by
 unfold bnd;rw [ev_congr h]
omit [Gd] in
theorem bounds_congr {fr fr':List Val} {lo hi mx:Option Opd} (h1: ∀ t∈optTmp lo,fr.getD t .undef =fr'.getD t .undef) (h2: ∀ t∈optTmp hi,fr.getD t .undef =fr'.getD t .undef) (h3: ∀ t∈optTmp mx,fr.getD t .undef =fr'.getD t .undef) (n c:Nat):bounds fr n c lo hi mx=bounds fr' n c lo hi mx:=by
 unfold bounds
 cases lo<;>cases hi<;>cases mx<;>simp only [optTmp] at h1 h2 h3<;>first
  |rfl
  |simp only [bnd_congr h1,bnd_congr h2,bnd_congr h3]
  |simp only [bnd_congr h1,bnd_congr h2]
  |simp only [bnd_congr h1,bnd_congr h3]
  |simp only [bnd_congr h2,bnd_congr h3]
  |simp only [bnd_congr h1]
  |simp only [bnd_congr h2]
  |simp only [bnd_congr h3]
omit [Gd] in
theorem step_congr {meth:TypeId→Val→String→Option (FuncId×Val)} {call:CallT} {fr fr':List Val} {h:Heap} {vo:VOp} (hh: ∀ t∈vo.tmps,fr.getD t .undef =fr'.getD t .undef):step meth call fr h vo=step meth call fr' h vo:=by
 cases vo<;>simp only [VOp.tmps,List.mem_append] at hh<;>simp only [step]
 case build z ps=>rw [fill_congr hh]
 case bslice n z ps=>rw [fill_congr hh]
 case mkfunc f a b=>rw [evs_congr fun t ht=>hh t (.inl ht),evs_congr fun t ht=>hh t (.inr ht)]
 case call f l=>rw [evs_congr hh]
 case outer f l=>rw [evs_congr hh]
 case minmax f l=>rw [evs_congr hh]
 case callv x l=>rw [ev_congr fun t ht=>hh t (.inl ht),evs_congr fun t ht=>hh t (.inr ht)]
 case invoke x n l=>rw [ev_congr fun t ht=>hh t (.inl ht),evs_congr fun t ht=>hh t (.inr ht)]
 case sliceStr x l k=>
  rw [ev_congr fun t ht=>hh t (.inl (.inl ht))]
  have:=fun n c=>bounds_congr (fr:=fr) (fr':=fr') (lo:=l) (hi:=k) (mx:=none) (fun t ht=>hh t (.inl (.inr ht))) (fun t ht=>hh t (.inr ht)) (by simp [optTmp]) n c
  simp only [this]
 case slice n x l k m=>
  rw [ev_congr fun t ht=>hh t (.inl (.inl (.inl ht)))]
  have:=fun n c=>bounds_congr (fr:=fr) (fr':=fr') (lo:=l) (hi:=k) (mx:=m) (fun t ht=>hh t (.inl (.inl (.inr ht)))) (fun t ht=>hh t (.inl (.inr ht))) (fun t ht=>hh t (.inr ht)) n c
  simp only [sliceVal,this]
 case sliceArr n s x l k m=>
  rw [ev_congr fun t ht=>hh t (.inl (.inl (.inl ht)))]
  have:=fun n c=>bounds_congr (fr:=fr) (fr':=fr') (lo:=l) (hi:=k) (mx:=m) (fun t ht=>hh t (.inl (.inl (.inr ht)))) (fun t ht=>hh t (.inl (.inr ht))) (fun t ht=>hh t (.inr ht)) n c
  simp only [this]
 all_goals first
  |rfl
  |rw [ev_congr hh]
  |rw [ev_congr fun t ht=>hh t (.inl ht),ev_congr fun t ht=>hh t (.inr ht)]
  |rw [ev_congr fun t ht=>hh t (.inl (.inl ht)),ev_congr fun t ht=>hh t (.inl (.inr ht)),ev_congr fun t ht=>hh t (.inr ht)]
def StepAt (meth:TypeId→Val→String→Option (FuncId×Val)) (call:CallT) (all:List VOper) (rs:List (Nat×Nat)) (vo:VOper) (fr:List Val) (h:Heap) (fr1:List Val) (h1:Heap) (bs:List Nat) (g:Nat×Nat):Prop:=
  (wanted fr vo.guard=some false∧fr1=setDst fr vo.dst .undef ∧h1=h∧bs=[]∧g=(h.next,h1.next))∨
  (wanted fr vo.guard = some true ∧ ∃ v, fr1 = setDst fr vo.dst v ∧
    (((vo.op.kind ≤ 1 ∨ vo.full = true) ∧ step meth call fr h vo.op = some (v, h1) ∧ bs = [] ∧ g = (h.next, h1.next)) ∨
     (2≤vo.op.kind∧vo.full=false∧bs=[]∧g=(h.next,h1.next)∧ ∃ h2,step meth call fr {h with hid:=hiddenOf rs vo.hide++h.hid,floor:=h.next} vo.op=some (v,h2)∧h1={h2 with hid:=h.hid,floor:=h.floor})∨
     (2 ≤ vo.op.kind ∧ vo.full = false ∧ wrBlocks fr vo.op = some bs ∧ wrOk all vo.hide fr bs h { h with hid := hiddenOf rs vo.hide ++ h.hid } = true ∧ g = wrRange vo.op bs h h1 ∧
       ∃ h2,step meth call fr {h with hid:=hiddenOf rs vo.hide++h.hid} vo.op=some (v,h2)∧h1=wrEnd vo.op bs {h2 with hid:=h.hid})))
def vo_full (o:VOper):Bool:=o.full
def rangesTo (G:Nat→Nat×Nat) (i:Nat):List (Nat×Nat):=(List.range i).map G
omit [Gd] in
theorem draw_trace {meth:TypeId→Val→String→Option (FuncId×Val)} {call:CallT} {all:List VOper}: ∀ (l:List VOper) (rs:List (Nat×Nat)) (fr fr':List Val) (h h':Heap),runDraw meth call all l rs fr h=some (fr',h')→
  ∃ (F:Nat→List Val) (H:Nat→Heap) (B:Nat→List Nat) (G:Nat→Nat×Nat),F 0=fr∧H 0=h∧F l.length=fr'∧H l.length=h'∧ ∀ i vo,l[i]? =some vo→StepAt meth call all (rs++rangesTo G i) vo (F i) (H i) (F (i+1)) (H (i+1)) (B i) (G i)
 |[],rs,fr,fr',h,h',e=>by
  simp only [runDraw,Option.some.injEq,Prod.mk.injEq] at e
  exact ⟨fun _=>fr,fun _=>h,fun _=>[],fun _=>(0,0),rfl,rfl,e.1,e.2,fun i vo hi=>by simp at hi⟩
 |o::r,rs,fr,fr',h,h',e=>by
  have glue: ∀ (fr1:List Val) (h1:Heap) (bs:List Nat) (g:Nat×Nat),StepAt meth call all rs o fr h fr1 h1 bs g→runDraw meth call all r (rs++[g]) fr1 h1=some (fr',h')→
    ∃ (F:Nat→List Val) (H:Nat→Heap) (B:Nat→List Nat) (G:Nat→Nat×Nat),F 0=fr∧H 0=h∧F (o::r).length =fr'∧H (o::r).length =h'∧ ∀ i vo,(o::r)[i]? =some vo→StepAt meth call all (rs++rangesTo G i) vo (F i) (H i) (F (i+1)) (H (i+1)) (B i) (G i):=by
   intro fr1 h1 bs g hst hrun
   obtain ⟨F,H,B,G,f0,g0,fn,gn,hs⟩:=draw_trace r _ _ _ _ _ hrun
   refine ⟨fun i=>match i with|0=>fr|i+1=>F i,fun i=>match i with|0=>h|i+1=>H i,fun i=>match i with|0=>bs|i+1=>B i,fun i=>match i with|0=>g|i+1=>G i,rfl,rfl,fn,gn,?_⟩
   intro i vo hi
   cases i with
   |zero=>
    simp at hi;subst hi
    simp only [rangesTo,List.range_zero,List.map_nil,List.append_nil,f0,g0]
    exact hst
   |succ i=>
    have:=hs i vo (by simpa using hi)
    have e:rs++[g]++rangesTo G i=rs++rangesTo (fun i=>match i with|0=>g|i+1=>G i) (i+1):=by
     simp only [rangesTo,List.range_succ_eq_map,List.map_cons,List.map_map,List.append_assoc,List.singleton_append]
     congr 2
    rw [e] at this
    exact this
  simp only [runDraw] at e
  split at e
  ·cases e
  ·rename_i hw
   exact glue _ _ [] _ (.inl ⟨hw,rfl,rfl,rfl,rfl⟩) e
  ·rename_i hw
   split at e
   ·rename_i hk
    split at e
    ·rename_i v h1 hst
     exact glue _ _ [] _ (.inr ⟨hw,v,rfl,.inl ⟨hk,hst,rfl,rfl⟩⟩) e
    ·cases e
   ·rename_i hnf
    have hk2:2≤o.op.kind:=by
     rcases Nat.lt_or_ge o.op.kind 2 with q|q
     ·exact absurd (.inl (by omega)) hnf
     ·exact q
    have hfu:o.full=false:=by cases hf:vo_full o<;>simp_all [vo_full]
    split at e
    ·rename_i hk
     split at e
     ·rename_i v h2 hst
      exact glue _ _ [] _ (.inr ⟨hw,v,rfl,.inr (.inl ⟨hk2,hfu,rfl,rfl,h2,hst,rfl⟩)⟩) e
     ·cases e
    ·split at e
     ·cases e
     ·rename_i bs hbs
      split at e
      ·rename_i hok
       split at e
       ·rename_i v h2 hst
        exact glue _ _ bs _ (.inr ⟨hw,v,rfl,.inr (.inr ⟨hk2,hfu,hbs,hok,rfl,h2,hst,rfl⟩)⟩) e
       ·cases e
      ·cases e
end Go.V
end
section
namespace Go.V
variable [Gd]
def Ren.cut (ρ:Ren) (k:Nat):Ren:=fun b=>if b<k then ρ b else none
theorem Ren.cut_le (ρ:Ren) (k:Nat):(ρ.cut k).le ρ:=by
 intro b l h
 unfold Ren.cut at h
 split at h
 ·exact h
 ·cases h
theorem Ren.cut_mono {ρ ρ':Ren} {k k':Nat} (h:ρ.le ρ') (hk:k≤k'):(ρ.cut k).le (ρ'.cut k'):=by
 intro b l e
 unfold Ren.cut at e ⊢
 split at e
 ·rw [if_pos (by omega)];exact h _ _ e
 ·cases e
def Modif (vo:VOper):Prop:=2≤vo.op.kind∧vo.full=true
def Bef (ops:Array Oper) (i j:Nat):Prop:=((Region.before ops).getD i 0).testBit j=true
structure Ctx (P:Program) (meth:TypeId→Val→String→Option (FuncId×Val)) (call:CallT) (ops:Array Oper) (vl:List VOper) (F:Nat→List Val) (H:Nat→Heap) (B:Nat→List Nat) (G:Nat→Nat×Nat):Prop where
 ty:TyOk P
 ms:MethSound P meth
 cs:CallSound P call
 ce:CallExt call
 len:vl.length=ops.size
 get: ∀ i,i<ops.size→ ∃ o vo,ops[i]? =some o∧vl[i]? =some vo∧cOp P o=some vo.op∧vo.dst=o.dst∧cGuard ops o.guard=some vo.guard∧notSelect o.op=true
 full: ∀ i vo,vl[i]? =some vo→vo.full=true→ ∀ j wo,vl[j]? =some wo→wo.op.kind≠0→j=i∨(j<i∧Bef ops i j)∨(i<j∧Bef ops j i)
 hide: ∀ i vo,vl[i]? =some vo→ ∀ j wo,vl[j]? =some wo→wo.op.kind≠0→j<i→ ¬ Bef ops i j→j∈vo.hide
 names: ∀ i o vo,ops[i]? =some o→vl[i]? =some vo→ ∀ t∈namesOf o vo,∀ j wo,vl[j]? =some wo→wo.dst=some t→j=i∨Bef ops (max j i) (min j i)
 edges: ∀ i o,ops[i]? =some o→ ∀ e∈o.after,Region.binds .any e=true→e.on<i
 trace: ∀ i vo,vl[i]? =some vo→StepAt meth call vl (rangesTo G i) vo (F i) (H i) (F (i+1)) (H (i+1)) (B i) (G i)
 low0: ∀ b,(H 0).next ≤b→(H 0).t.get b=none
section
variable {P:Program} {meth:TypeId→Val→String→Option (FuncId×Val)} {call:CallT} {ops:Array Oper} {vl:List VOper} {F:Nat→List Val} {H:Nat→Heap} {B:Nat→List Nat} {G:Nat→Nat×Nat}
variable {all:List VOper} {bs:List Nat} {g:Nat×Nat}
theorem StepAt.ext (hce:CallExt call) {rs:List (Nat×Nat)} {vo:VOper} {fr fr1:List Val} {h h1:Heap} (s:StepAt meth call all rs vo fr h fr1 h1 bs g):HExt h h1:=by
 rcases s with ⟨_,_,rfl,_⟩|⟨_,v,_,⟨_,hs,_⟩|⟨_,_,_,_,h2,hs,rfl⟩|⟨_,_,_,hok,_,h2,hs,rfl⟩⟩
 ·exact .refl _
 ·exact step_ext hce hs
 ·exact (step_ext hce hs).free
 ·have x:=(step_ext hce hs).rehid
  refine x.trans (wrEnd_ext fun b hb=> ?_)
  rw [x.floor]
  exact ((wrOk_get hok).1 b hb).1
theorem StepAt.length {rs:List (Nat×Nat)} {vo:VOper} {fr fr1:List Val} {h h1:Heap} (s:StepAt meth call all rs vo fr h fr1 h1 bs g):fr1.length=fr.length:=by
 have: ∀ v,(setDst fr vo.dst v).length =fr.length:=by intro v;cases vo.dst<;>simp [setDst]
 rcases s with ⟨_,rfl,_⟩|⟨_,v,rfl,_⟩<;>exact this _
theorem StepAt.other {rs:List (Nat×Nat)} {vo:VOper} {fr fr1:List Val} {h h1:Heap} (s:StepAt meth call all rs vo fr h fr1 h1 bs g) {t:Nat} (ht:vo.dst≠some t):fr1.getD t .undef =fr.getD t .undef :=by
 have: ∀ v,(setDst fr vo.dst v).getD t .undef =fr.getD t .undef :=by
  intro v
  cases hd:vo.dst with
  |none=>rfl
  |some d=>
   have:d≠t:=fun e=>ht (by rw [hd,e])
   simp [setDst,List.getD_eq_getElem?_getD,this]
 rcases s with ⟨_,rfl,_⟩|⟨_,v,rfl,_⟩<;>exact this _
theorem StepAt.keeps (hce:CallExt call) {rs:List (Nat×Nat)} {vo:VOper} {fr fr1:List Val} {h h1:Heap} (s:StepAt meth call all rs vo fr h fr1 h1 bs g) (hm: ¬ Modif vo) {b:Nat} (hb:b<h.next) (hn:b ∉ bs):h1.t.get b=h.t.get b:=by
 rcases s with ⟨_,_,rfl,_⟩|⟨_,v,_,⟨hk,hs,_⟩|⟨_,_,_,_,h2,hs,rfl⟩|⟨_,_,hw,_,_,h2,hs,rfl⟩⟩
 ·rfl
 ·have hk1:vo.op.kind≤1:=by
   rcases hk with hk|hk
   ·exact hk
   ·rcases Nat.lt_or_ge 1 vo.op.kind with h|h
    ·exact absurd ⟨h,hk⟩ hm
    ·exact h
  have:=step_ext hce (step_blind hk1 hs h.hid h.next)
  exact this.keep b hb hb
 ·exact (step_ext hce hs).keep b hb hb
 ·rw [wrEnd_get hn]
  exact wr_keeps hw hs b hb hn
theorem StepAt.idle {rs:List (Nat×Nat)} {vo:VOper} {fr fr1:List Val} {h h1:Heap} (s:StepAt meth call all rs vo fr h fr1 h1 bs g) (hk:vo.op.kind=0):h1=h:=by
 rcases s with ⟨_,_,rfl,_⟩|⟨_,v,_,⟨_,hs,_⟩|⟨hk2,_⟩|⟨hk2,_⟩⟩
 ·rfl
 ·generalize vo.op=x at hk hs
  cases x<;>simp only [VOp.kind] at hk<;>(try omega)<;>simp only [step,pureV] at hs<;>(repeat' split at hs)<;>(try (cases hs;done))<;>cases hs<;>rfl
 ·omega
 ·omega
variable (C:Ctx P meth call ops vl F H B G)
include C
theorem Ctx.vo {i:Nat} (h:i<ops.size): ∃ vo,vl[i]? =some vo:=by
 obtain ⟨_,vo,_,h2,_⟩:=C.get i h
 exact ⟨vo,h2⟩
theorem Ctx.ext {i j:Nat} (hij:i≤j) (hj:j≤ops.size):HExt (H i) (H j):=by
  induction j with
  | zero => have : i = 0 := by omega
            subst this;exact .refl _
  |succ j ih=>
    by_cases h:i=j+1
    · subst h;exact .refl _
    · obtain ⟨vo,hvo⟩:=C.vo (i:=j) (by omega)
      exact (ih (by omega) (by omega)).trans ((C.trace j vo hvo).ext C.ce)
theorem Ctx.flen {j:Nat} (hj:j≤ops.size):(F j).length =(F 0).length :=by
 induction j with
 |zero=>rfl
 |succ j ih=>
  obtain ⟨vo,hvo⟩:=C.vo (i:=j) (by omega)
  rw [(C.trace j vo hvo).length,ih (by omega)]
theorem Ctx.fstable {m i t:Nat} (hmi:m≤i) (hi:i≤ops.size) (hn: ∀ j wo,m≤j→j<i→vl[j]? =some wo→wo.dst≠some t):(F i).getD t .undef =(F m).getD t .undef :=by
  induction i with
  | zero => have : m = 0 := by omega
            subst this;rfl
  |succ i ih=>
    by_cases h:m=i+1
    · subst h;rfl
    · obtain ⟨vo,hvo⟩:=C.vo (i:=i) (by omega)
      rw [(C.trace i vo hvo).other (hn i vo (by omega) (by omega) hvo)]
      exact ih (by omega) (by omega) fun j wo h1 h2=>hn j wo h1 (by omega)
theorem Ctx.hstable {m i b:Nat} (hmi:m≤i) (hi:i≤ops.size) (hb:b<(H m).next) (hn: ∀ j wo,m≤j→j<i→vl[j]? =some wo→ ¬ Modif wo∧b ∉ B j):(H i).t.get b=(H m).t.get b:=by
  induction i with
  | zero => have : m = 0 := by omega
            subst this;rfl
  |succ i ih=>
    by_cases h:m=i+1
    · subst h;rfl
    · obtain ⟨vo,hvo⟩:=C.vo (i:=i) (by omega)
      have hlt:b<(H i).next :=Nat.lt_of_lt_of_le hb (C.ext (show m≤i by omega) (by omega)).next
      rw [(C.trace i vo hvo).keeps C.ce (hn i vo (by omega) (by omega) hvo).1 hlt (hn i vo (by omega) (by omega) hvo).2]
      exact ih (by omega) (by omega) fun j wo h1 h2=>hn j wo h1 (by omega)
theorem Ctx.maker {i b:Nat} (hi:i≤ops.size) (h0:(H 0).next ≤b) (hb:b<(H i).next): ∃ j wo,j<i∧vl[j]? =some wo∧wo.op.kind≠0∧(H j).next ≤b∧b<(H (j+1)).next :=by
 induction i with
 |zero=>omega
 |succ i ih=>
  by_cases h:b<(H i).next
  ·obtain ⟨j,wo,h1,h2⟩:=ih (by omega) h
   exact ⟨j,wo,by omega,h2⟩
  ·obtain ⟨vo,hvo⟩:=C.vo (i:=i) (by omega)
   refine ⟨i,vo,by omega,hvo,?_,by omega,hb⟩
   intro hk
   have:=(C.trace i vo hvo).idle hk
   rw [this] at hb;omega
theorem Ctx.ranges {i j b:Nat} (hi:i<ops.size) (hj:j<ops.size) (h1:(H i).next ≤b) (h2:b<(H (i+1)).next) (h3:(H j).next ≤b) (h4:b<(H (j+1)).next):i=j:=by
 rcases Nat.lt_trichotomy i j with h|h|h
 ·have:=(C.ext (show i+1≤j by omega) (by omega)).next;omega
 ·exact h
 ·have:=(C.ext (show j+1≤i by omega) (by omega)).next;omega
theorem Ctx.bsee {j b:Nat} {vo:VOper} (hvo:vl[j]? =some vo) (hb:b∈B j): ¬ Modif vo∧2≤vo.op.kind∧(H j).floor ≤b∧(∃ x,(H j).get b=some x)∧(∀ k,k∈vo.hide→k<j→ ¬ ((G k).1≤b∧b<(G k).2))∧ ∀ k∈vo.hide,unseen vl (F j) (B j) k=true:=by
 rcases C.trace j vo hvo with ⟨_,_,_,e,_⟩|⟨_,v,_,⟨_,_,e,_⟩|⟨_,_,e,_⟩|⟨hk,hf,hw,hok,_⟩⟩
 ·rw [e] at hb;cases hb
 ·rw [e] at hb;cases hb
 ·rw [e] at hb;cases hb
 ·obtain ⟨h1,h2⟩:=wrOk_get hok
  obtain ⟨h3,x,h4⟩:=h1 b hb
  have h5:=Heap.get_nh h4
  simp only [Heap.hidden,List.any_append,Bool.or_eq_false_iff] at h5
  refine ⟨fun hm=>(by obtain ⟨_,z⟩:=hm;rw [hf] at z;exact Bool.noConfusion z),hk,h3,⟨x,?_⟩,?_,h2⟩
  ·have:=Heap.get_t h4
   unfold Heap.get Heap.hidden
   rw [h5.2];exact this
  ·intro k hkh hkj hin
   have: ∀ {l:List Nat},k∈l→(hiddenOf (rangesTo G j) l).any (fun r=>r.1≤b&&b<r.2)=true:=by
    intro l
    induction l with
    |nil=>intro h;cases h
    |cons c l ih=>
     intro h
     rw [hiddenOf]
     rcases List.mem_cons.1 h with rfl|h
     ·have e:(rangesTo G j).getD k (0,0)=G k:=by simp [rangesTo,List.getD_eq_getElem?_getD,hkj]
      rw [e,if_pos (Nat.lt_of_le_of_lt hin.1 hin.2),List.any_cons,Bool.or_eq_true]
      left
      simp [hin.1,hin.2]
     ·split
      ·rw [List.any_cons,Bool.or_eq_true]
       exact .inr (ih h)
      ·exact ih h
   rw [this hkh] at h5
   exact Bool.noConfusion h5.1
theorem Ctx.gmade {j b:Nat} (hj:j<ops.size) (h1:(H j).next ≤b) (h2:b<(H (j+1)).next):(G j).1≤b∧b<(G j).2:=by
 obtain ⟨vo,hvo⟩:=C.vo hj
 rcases C.trace j vo hvo with ⟨_,_,_,_,e⟩|⟨_,v,_,⟨_,_,_,e⟩|⟨_,_,_,e,_⟩|⟨hk,hf,hw,hok,e,q,hs,e2⟩⟩
 ·rw [e];exact ⟨h1,h2⟩
 ·rw [e];exact ⟨h1,h2⟩
 ·rw [e];exact ⟨h1,h2⟩
 ·have hn:(H (j+1)).next =q.next:=by rw [e2,wrEnd_same.1]
  rcases wr_made (h:=H j) hw hs hn with q1|q1
  ·omega
  ·rw [e,q1];exact ⟨h1,h2⟩
theorem Ctx.bafter {j b:Nat} {vo:VOper} (hvo:vl[j]? =some vo) (hb:b∈B j):((G j).1≤b∧b<(G j).2)∨(H (j+1)).t.get b=none:=by
 rcases C.trace j vo hvo with ⟨_,_,_,e,_⟩|⟨_,v,_,⟨_,_,e,_⟩|⟨_,_,e,_⟩|⟨hk,hf,hw,hok,e,q,hs,e2⟩⟩
 ·rw [e] at hb;cases hb
 ·rw [e] at hb;cases hb
 ·rw [e] at hb;cases hb
 ·rw [e,e2]
  exact wr_after (meth:=meth) (call:=call) (hv:=H j) (v:=v) (h:=H j) hw hb
theorem Ctx.lowi {i:Nat} (hi:i≤ops.size): ∀ b,(H i).next ≤b→(H i).t.get b=none:=(C.ext (Nat.zero_le i) hi).low C.low0
end
def Pres (H:Nat→Heap) (In:Nat→Prop) (b:Nat):Prop:=b<(H 0).next ∨ ∃ j,In j∧(H j).next ≤b∧b<(H (j+1)).next
structure Inv (ops:Array Oper) (vl:List VOper) (F:Nat→List Val) (H:Nat→Heap) (B:Nat→List Nat) (ρ0:Ren) (w0:World) (a0:Act) (In:Nat→Prop) (a:Act) (w:World) (ρ:Ren) (T M:Nat→Nat):Prop where
 clo: ∀ k,In k→ ∀ j,Bef ops k j→In j
 lt: ∀ k,In k→k<ops.size
 pres: ∀ b l,ρ b=some l→Pres H In b
 ext:ρ0.le ρ
 old: ∀ b l,b<(H 0).next →ρ b=some l→ρ0 b=some l
 tsz:a.tmps.size=(F 0).length
 dfr:a.defers=a0.defers
 tmp: ∀ t,t<(F 0).length →T t≤ops.size∧(T t=0∨ ∃ k wo,T t=k+1∧In k∧vl[k]? =some wo∧wo.dst=some t)∧(∀ j wo,T t≤j→In j→vl[j]? =some wo→wo.dst≠some t)∧
  VRel (ρ.cut (H (T t)).next) ((F (T t)).getD t .undef) (a.tmps.getD t Go.undef)
 blk: ∀ b,Pres H In b→M b≤ops.size∧b<(H (M b)).next ∧(M b=0∨ ∃ k wo,M b=k+1∧In k∧vl[k]? =some wo∧(Modif wo∨((H k).next ≤b∧b<(H (k+1)).next)∨b∈B k))∧
  (∀ j wo,M b≤j→In j→vl[j]? =some wo→ ¬ Modif wo∧b ∉ B j)∧ ∀ x,(H (M b)).get b=some x→ ∃ l,ρ b=some l∧BRel (ρ.cut (H (M b)).next) w l x
 inj: ∀ b b' x x' l l',Pres H In b→Pres H In b'→(H (M b)).get b=some x→(H (M b')).get b'=some x'→ρ b=some l→ρ b'=some l'→l.c=l'.c→b=b'∨(b<(H 0).base ∧b'<(H 0).base)
 tight: ∀ b l,(H 0).base ≤b→ρ b=some l→l.t=true
 os:w.os=w0.os
 tape:w.tape=w0.tape
 output:w.output=w0.output
 size:w0.heap.size≤w.heap.size
 frame: ∀ c,c<w0.heap.size→(∀ b x l,(H 0).get b=some x→(H 0).floor ≤b→ρ0 b=some l→l.c≠c)→w.heap[c]? =w0.heap[c]?
 fresh: ∀ b l,ρ b=some l→ρ0 b=none→w0.heap.size≤l.c∨ ∃ b0 x0 l0,(H 0).get b0=some x0∧(H 0).floor ≤b0∧ρ0 b0=some l0∧l0.c=l.c
structure How (H:Nat→Heap) (B:Nat→List Nat) (In:Nat→Prop) (i:Nat) (vo:VOper) (hi hi':Heap):Prop where
 t:hi.t=(H i).t
 next:hi.next=(H i).next
 t':hi'.t=(H (i+1)).t
 next':hi'.next=(H (i+1)).next
 kind:(hi=H i∧hi'=H (i+1)∧Modif vo)∨(¬ Modif vo∧hi.floor=(H i).next ∧B i=[])∨(¬ Modif vo∧hi.floor=(H i).floor ∧ ∀ b x,hi.get b=some x→b∈B i)
 hid: ∀ b,hi.hidden b=false→(H i).hidden b=false
 hid': ∀ b,(H i).next ≤b∨b∈B i→(H i).hidden b=false→hi'.hidden b=false
 vis: ∀ b x,hi.get b=some x→vo.op.kind≠0∧Pres H In b∧ ∀ k,b∈B k→(In k→k<i)∧(k<i→In k)
 bvis: ∀ b∈B i,∃ x,hi.get b=some x
 base:hi.base=(H i).base
section
variable {P:Program} {meth:TypeId→Val→String→Option (FuncId×Val)} {call:CallT} {ops:Array Oper} {vl:List VOper} {F:Nat→List Val} {H:Nat→Heap} {B:Nat→List Nat} {G:Nat→Nat×Nat}
 (C:Ctx P meth call ops vl F H B G) {ρ0:Ren} {w0:World} {a0:Act} {In:Nat→Prop} {a:Act} {w:World} {ρ:Ren} {T M:Nat→Nat} (I:Inv ops vl F H B ρ0 w0 a0 In a w ρ T M)
 {i:Nat} (hin: ¬ In i) (hi0:i<ops.size) (hbef: ∀ j,Bef ops i j→In j) {vo:VOper} (hvo:vl[i]? =some vo)
include C I hin hi0 hbef hvo
theorem modif_before (hk:vo.op.kind≠0) {k:Nat} {wo:VOper} (hwo:vl[k]? =some wo) (hm:Modif wo):(In k→k<i)∧(k<i→In k):=by
 rcases C.full k wo hwo hm.2 i vo hvo hk with h|⟨h1,h2⟩|⟨h1,h2⟩
 ·subst h
  exact ⟨fun h=>absurd h hin,fun h=>absurd h (Nat.lt_irrefl _)⟩
 ·exact ⟨fun h=>absurd (I.clo k h i h2) hin,fun h=>by omega⟩
 ·exact ⟨fun _=>h1,fun _=>hbef k h2⟩
theorem seen {hi hi':Heap} (W:How H B In i vo hi hi') {b:Nat} {x:Blk} (hg:hi.get b=some x):M b≤i∧(H (M b)).get b=some x∧b<(H i).next :=by
 obtain ⟨hk,hp,hsp⟩:=W.vis b x hg
 obtain ⟨m1,m2,m3,m4,m5⟩:=I.blk b hp
 have ht:(H i).t.get b=some x:=by rw [←W.t];exact Heap.get_t hg
 have hb:b<(H i).next :=by
  rcases Nat.lt_or_ge b (H i).next with h|h
  ·exact h
  ·rw [C.lowi (by omega) b h] at ht;cases ht
 have hMi:M b≤i:=by
  rcases m3 with m3|⟨k,wo,e,hIk,hwo,hmod|⟨r1,r2⟩|hbk⟩
  ·omega
  ·have:=(modif_before C I hin hi0 hbef hvo hk hwo hmod).1 hIk;omega
  ·have hkn:=I.lt k hIk
   rcases Nat.lt_trichotomy k i with h|h|h
   ·omega
   ·subst h;exact absurd hIk hin
   ·have:=(C.ext (show i≤k by omega) (by omega)).next;omega
  ·have:=(hsp k hbk).1 hIk;omega
 refine ⟨hMi,?_,hb⟩
 have hst:=C.hstable hMi (by omega) m2 fun j wo h1 h2 hwo=>⟨fun hmod=>(m4 j wo h1 ((modif_before C I hin hi0 hbef hvo hk hwo hmod).2 h2) hwo).1 hmod,fun hbj=>(m4 j wo h1 ((hsp j hbj).2 h2) hwo).2 hbj⟩
 have hh:(H (M b)).hidden b=false:=by
  have e1:=(C.ext (Nat.zero_le (M b)) m1).hid
  have e2:=(C.ext (Nat.zero_le i) (show i≤ops.size by omega)).hid
  have:=W.hid b (Heap.get_nh hg)
  unfold Heap.hidden at this ⊢
  rw [e1,←e2];exact this
 unfold Heap.get
 rw [hh,←hst,ht];rfl
theorem base_eq {hi hi':Heap} (W:How H B In i vo hi hi'):hi.base=(H 0).base :=W.base.trans (C.ext (Nat.zero_le i) (by omega)).base
theorem inv_hrel (hr0:HRel ρ0 (H 0) w0) {hi hi':Heap} (W:How H B In i vo hi hi'):HRel (ρ.cut (H i).next) hi w:=by
 have hbe:=base_eq C I hin hi0 hbef hvo W
 have hx0:=C.ext (Nat.zero_le i) (show i≤ops.size by omega)
 refine ⟨?_,?_,?_,?_,?_,fun b l hb e=>I.tight b l (by rw [←hbe];exact hb) (Ren.cut_le _ _ _ _ e)⟩
 ·intro b x hg
  obtain ⟨s1,s2,s3⟩:=seen C I hin hi0 hbef hvo W hg
  obtain ⟨l,h1,h2⟩:=(I.blk b (W.vis b x hg).2.1).2.2.2.2 x s2
  exact ⟨l,by simp [Ren.cut,s3,h1],h2.mono (Ren.cut_mono (Ren.le_refl _) (C.ext s1 (by omega)).next) rfl⟩
 ·intro b b' x x' l l' hg hg' r r' hc
  obtain ⟨s1,s2,s3⟩:=seen C I hin hi0 hbef hvo W hg
  obtain ⟨s1',s2',s3'⟩:=seen C I hin hi0 hbef hvo W hg'
  rw [hbe]
  exact I.inj b b' x x' l l' (W.vis b x hg).2.1 (W.vis b' x' hg').2.1 s2 s2' (Ren.cut_le _ _ _ _ r) (Ren.cut_le _ _ _ _ r') hc
 ·intro b hb
  rw [W.next] at hb
  unfold Ren.cut;rw [if_neg (by omega)]
 ·intro b x hg
  rw [W.t] at hg
  rw [W.next]
  rcases Nat.lt_or_ge b (H i).next with h|h
  ·exact h
  ·rw [C.lowi (by omega) b h] at hg;cases hg
 ·rw [hbe,W.next]
  have h1:=hr0.bs
  have h2:=hx0.next
  refine ⟨?_,by omega⟩
  rcases W.kind with ⟨e,_,_⟩|⟨_,e,_⟩|⟨_,e,_⟩
  ·rw [e,hx0.floor];exact h1.1
  ·rw [e];omega
  ·rw [e,hx0.floor];exact h1.1
theorem named {o:Oper} (ho:ops[i]? =some o) {t:Nat} (ht:t∈namesOf o vo) (htl:t<(F 0).length):VRel (ρ.cut (H i).next) ((F i).getD t .undef) (a.tmps.getD t Go.undef):=by
 obtain ⟨t1,t2,t3,t4⟩:=I.tmp t htl
 have hT:T t≤i:=by
  rcases t2 with t2|⟨k,wo,e,hIk,hwo,hd⟩
  ·omega
  ·rcases C.names i o vo ho hvo t ht k wo hwo hd with h|h
   ·subst h;exact absurd hIk hin
   ·rcases Nat.lt_trichotomy k i with h'|h'|h'
    ·omega
    ·subst h';exact absurd hIk hin
    ·rw [Nat.max_eq_left (by omega),Nat.min_eq_right (by omega)] at h
     exact absurd (I.clo k hIk i h) hin
 have hst:=C.fstable hT (show i≤ops.size by omega) (t:=t) fun j wo h1 h2 hwo hd=>by
  rcases C.names i o vo ho hvo t ht j wo hwo hd with h|h
  ·omega
  ·rw [Nat.max_eq_right (by omega),Nat.min_eq_left (by omega)] at h
   exact t3 j wo h1 (hbef j h) hwo hd
 rw [hst]
 exact VRel.mono (Ren.cut_mono (Ren.le_refl _) (C.ext hT (by omega)).next) _ _ t4
theorem written (hr0:HRel ρ0 (H 0) w0) {hi hi':Heap} (W:How H B In i vo hi hi') {b:Nat} {x:Blk} {l:Loc} (hg:hi.get b=some x) (hf:hi.floor≤b) (hl:(ρ.cut (H i).next) b=some l):
  w0.heap.size≤l.c∨ ∃ b0 x0 l0,(H 0).get b0=some x0∧(H 0).floor ≤b0∧ρ0 b0=some l0∧l0.c=l.c:=by
 have hlt:b<(H i).next :=by
  unfold Ren.cut at hl
  split at hl
  ·assumption
  ·cases hl
 have hl':=Ren.cut_le _ _ _ _ hl
 have main:(H i).floor ≤b→w0.heap.size≤l.c∨ ∃ b0 x0 l0,(H 0).get b0=some x0∧(H 0).floor ≤b0∧ρ0 b0=some l0∧l0.c=l.c:=by
  intro hfl
  have hx:=C.ext (Nat.zero_le i) (show i≤ops.size by omega)
  cases h0:ρ0 b with
  |none=>exact I.fresh b l hl' h0
  |some l0=>
   have:=I.ext _ _ h0
   rw [hl'] at this;cases this
   have hb0:b<(H 0).next :=by
    rcases Nat.lt_or_ge b (H 0).next with h|h
    ·exact h
    ·rw [hr0.top b h] at h0;cases h0
   have hh:(H 0).hidden b=false:=by
    have:=W.hid b (Heap.get_nh hg)
    unfold Heap.hidden at this ⊢
    rw [←hx.hid];exact this
   cases ht:(H 0).t.get b with
   |none=>
    have:=hx.live b hb0 ht
    rw [←W.t,Heap.get_t hg] at this;cases this
   |some x0=>
    exact .inr ⟨b,x0,l,by unfold Heap.get;rw [hh,ht];rfl,by rw [←hx.floor];exact hfl,h0,rfl⟩
 rcases W.kind with ⟨e,_,hm⟩|⟨_,e,_⟩|⟨_,e,_⟩
 ·exact main (by rw [←e];exact hf)
 ·omega
 ·exact main (by rw [←e];exact hf)
theorem inv_step (hr0:HRel ρ0 (H 0) w0) {o:Oper} (ho:ops[i]? =some o) (hdst:vo.dst=o.dst) {hi hi':Heap} (W:How H B In i vo hi hi') {ρ':Ren} {w':World} (p:Post (ρ.cut (H i).next) hi w ρ' hi' w') {v:Val} {cv:Value} (hv:VRel ρ' v cv) (hF:F (i+1)=setDst (F i) vo.dst v):
  ∃ ρn T' M',Inv ops vl F H B ρ0 w0 a0 (fun k=>k=i∨In k) (a.put vo.dst cv) w' ρn T' M':=by
 have hnx:(H i).next ≤(H (i+1)).next :=(C.ext (Nat.le_succ i) (by omega)).next
 have h0x:(H 0).next ≤(H i).next :=(C.ext (Nat.zero_le i) (by omega)).next
 let R:Nat→Prop:=fun b=>(H i).next ≤b∧b<(H (i+1)).next
 have hdec: ∀ b,Decidable (R b):=fun b=>inferInstanceAs (Decidable (_∧_))
 let ρn:Ren:=fun b=>if (H i).next ≤b∧b<(H (i+1)).next then ρ' b else ρ b
 have rn_in: ∀ b,R b→ρn b=ρ' b:=fun b h=>if_pos h
 have rn_out: ∀ b,¬ R b→ρn b=ρ b:=fun b h=>if_neg h
 have pres_out: ∀ b,Pres H In b→ ¬ R b:=by
  rintro b (h|⟨j,hj,h1,h2⟩) ⟨r1,r2⟩
  ·omega
  ·have:=C.ranges hi0 (I.lt j hj) r1 r2 h1 h2
   subst this;exact hin hj
 have f1:ρ.le ρn:=by
  intro b l e
  rw [rn_out b (pres_out b (I.pres b l e))];exact e
 have born: ∀ b l,ρ' b=some l→(ρ.cut (H i).next) b=none→R b:=by
  intro b l e hn
  refine ⟨by rw [←W.next];exact p.born b l e hn,?_⟩
  rcases Nat.lt_or_ge b (H (i+1)).next with h|h
  ·exact h
  ·rw [p.hrel.top b (by rw [W.next'];exact h)] at e;cases e
 have f2:ρ'.le ρn:=by
  intro b l e
  cases hc:(ρ.cut (H i).next) b with
  |none=>rw [rn_in b (born b l e hc)];exact e
  |some l2=>
   have:=p.ext _ _ hc
   rw [e] at this;cases this
   exact f1 _ _ (Ren.cut_le _ _ _ _ hc)
 have top': ∀ b l,ρ' b=some l→b<(H (i+1)).next :=by
  intro b l e
  rcases Nat.lt_or_ge b (H (i+1)).next with h|h
  ·exact h
  ·rw [p.hrel.top b (by rw [W.next'];exact h)] at e;cases e
 have f2':ρ'.le (ρn.cut (H (i+1)).next):=by
  intro b l e
  unfold Ren.cut
  rw [if_pos (top' b l e)];exact f2 _ _ e
 have pres': ∀ b,Pres H (fun k=>k=i∨In k) b→R b∨Pres H In b:=by
  rintro b (h|⟨j,rfl|hj,h1,h2⟩)
  ·exact .inr (.inl h)
  ·exact .inl ⟨h1,h2⟩
  ·exact .inr (.inr ⟨j,hj,h1,h2⟩)
 have presR: ∀ b,R b→Pres H (fun k=>k=i∨In k) b:=fun b h=>.inr ⟨i,.inl rfl,h.1,h.2⟩
 have presI: ∀ b,Pres H In b→Pres H (fun k=>k=i∨In k) b:=by
  rintro b (h|⟨j,hj,h⟩)
  ·exact .inl h
  ·exact .inr ⟨j,.inr hj,h⟩
 have kindR: ∀ b,R b→vo.op.kind≠0:=by
  rintro b ⟨r1,r2⟩ hk
  have:=(C.trace i vo hvo).idle hk
  rw [this] at r2;omega
 have ho': ∃ o,ops[i]? =some o:=⟨o,ho⟩
 have hbase0:(H 0).base ≤(H i).floor :=by
  have hx0:=C.ext (Nat.zero_le i) (show i≤ops.size by omega)
  rw [hx0.floor];exact hr0.bs.1
 have still: ¬ Modif vo→ ∀ b x l,Pres H In b→(H (M b)).get b=some x→ρ b=some l→b ∉ B i→w'.heap[l.c]? =w.heap[l.c]? :=by
  intro hnm b x l hp hgb hrb hbi
  obtain ⟨l2,q1,q2⟩:=(I.blk b hp).2.2.2.2 x hgb
  rw [hrb] at q1;cases q1
  refine p.frame l.c q2.lt fun b0 x0 l0 hg0 hf0 hl0 hcc=> ?_
  rcases W.kind with ⟨_,_,hm⟩|⟨_,e,_⟩|⟨_,e,hv⟩
  ·exact hnm hm
  ·unfold Ren.cut at hl0
   split at hl0
   ·omega
   ·cases hl0
  ·obtain ⟨s1,s2,s3⟩:=seen C I hin hi0 hbef hvo W hg0
   have:=I.inj b0 b x0 x l0 l (W.vis b0 x0 hg0).2.1 hp s2 hgb (Ren.cut_le _ _ _ _ hl0) hrb hcc
   rcases this with rfl|⟨q,_⟩
   ·exact hbi (hv _ _ hg0)
   ·omega
 have newloc: ¬ Modif vo→ ∀ b l,R b→ρ' b=some l→w.heap.size≤l.c∨ ∃ b0 x0 l0,b0∈B i∧hi.get b0=some x0∧(H i).floor ≤b0∧ρ b0=some l0∧l0.c=l.c:=by
  intro hnm b l hR e
  have hc:(ρ.cut (H i).next) b=none:=by unfold Ren.cut;rw [if_neg (by have:=hR.1;omega)]
  rcases p.fresh b l e hc with h|⟨b0,x0,l0,hg0,hf,hl,hcc⟩
  ·exact .inl h
  ·rcases W.kind with ⟨_,_,hm⟩|⟨_,e,_⟩|⟨_,e,hv⟩
   ·exact absurd hm hnm
   ·unfold Ren.cut at hl
    split at hl
    ·omega
    ·cases hl
   ·exact .inr ⟨b0,x0,l0,hv _ _ hg0,hg0,by rw [←e];exact hf,Ren.cut_le _ _ _ _ hl,hcc⟩
 have later: ∀ j wo b,i+1≤j→In j→vl[j]? =some wo→vo.op.kind≠0→b∈B j→((G i).1≤b∧b<(G i).2)→False:=by
  intro j wo b hj hIj hwo hk hbj hg
  obtain ⟨_,_,_,_,h5,_⟩:=C.bsee hwo hbj
  have hnb: ¬ Bef ops j i:=fun hb=>hin (I.clo j hIj i hb)
  exact h5 i (C.hide j wo hwo i vo hvo hk (by omega) hnb) (by omega) hg
 have goneL: ∀ j wo b,i+1≤j→In j→vl[j]? =some wo→b∈B j→b<(H (i+1)).next →(H (i+1)).t.get b=none→False:=by
  intro j wo b hj hIj hwo hbj hlt hnone
  obtain ⟨_,_,_,⟨x,hx⟩,_⟩:=C.bsee hwo hbj
  have:=(C.ext hj (Nat.le_of_lt (I.lt j hIj))).live b hlt hnone
  rw [Heap.get_t hx] at this;cases this
 have hidS:(H (i+1)).hid =(H i).hid :=(C.ext (Nat.le_succ i) (by omega)).hid
 have getR: ∀ b x,R b∨b∈B i→(H (i+1)).get b=some x→hi'.get b=some x:=by
  intro b x hR hg
  have hh:(H i).hidden b=false:=by
   have:=Heap.get_nh hg
   unfold Heap.hidden at this ⊢
   rw [←hidS];exact this
  unfold Heap.get
  rw [W.hid' b (hR.imp (·.1) id) hh,W.t',Heap.get_t hg];rfl
 have oldB: ∀ b,b∈B i→b<(H i).next ∧Pres H In b∧ ∃ x,(H (M b)).get b=some x:=by
  intro b hb
  obtain ⟨x,hx⟩:=W.bvis b hb
  obtain ⟨s1,s2,s3⟩:=seen C I hin hi0 hbef hvo W hx
  exact ⟨s3,(W.vis b x hx).2.1,x,s2⟩
 refine ⟨ρn,fun t=>if vo.dst=some t then i+1 else T t,fun b=>open Classical in if Modif vo∨(R b∨b∈B i) then i+1 else M b,?_⟩
 constructor
 case clo=>
  rintro k (rfl|hk) j hj
  ·exact .inr (hbef j hj)
  ·exact .inr (I.clo k hk j hj)
 case lt=>
  rintro k (rfl|hk)
  ·exact hi0
  ·exact I.lt k hk
 case pres=>
  intro b l e
  by_cases hR:R b
  ·exact presR b hR
  ·rw [rn_out b hR] at e
   exact presI b (I.pres b l e)
 case ext=>exact I.ext.trans f1
 case tight=>
  intro b l hb e
  by_cases hR:R b
  ·rw [rn_in b hR] at e
   exact p.hrel.tight b l (by rw [p.base,base_eq C I hin hi0 hbef hvo W];exact hb) e
  ·rw [rn_out b hR] at e
   exact I.tight b l hb e
 case old=>
  intro b l hb e
  rw [rn_out b (fun hR=>by have:=hR.1;omega)] at e
  exact I.old b l hb e
 case tsz=>
  have:(a.put vo.dst cv).tmps.size =a.tmps.size:=by cases vo.dst<;>simp [Act.put]
  rw [this];exact I.tsz
 case dfr=>
  have:(a.put vo.dst cv).defers =a.defers:=by cases vo.dst<;>rfl
  rw [this];exact I.dfr
 case tmp=>
  intro t ht
  by_cases hd:vo.dst=some t
  ·simp only [hd,if_true]
   refine ⟨by omega,.inr ⟨i,vo,rfl,.inl rfl,hvo,hd⟩,?_,?_⟩
   ·rintro j wo hj (rfl|hIj) hwo hwd
    ·omega
    ·rcases C.names i o vo ho hvo t (by simp [namesOf,hd]) j wo hwo hwd with h|h
     ·subst h;exact hin hIj
     ·rw [Nat.max_eq_left (by omega),Nat.min_eq_right (by omega)] at h
      exact hin (I.clo j hIj i h)
   ·have e1:(F (i+1)).getD t .undef =v:=by
     rw [hF,hd]
     have:t<(F i).length :=by rw [C.flen (by omega)];exact ht
     simp [setDst,List.getD_eq_getElem?_getD,this]
    have e2:(a.put (some t) cv).tmps.getD t Go.undef=cv:=by
     have:t<a.tmps.size:=by rw [I.tsz];exact ht
     simp [Act.put,this]
    rw [e1,e2]
    exact VRel.mono f2' _ _ hv
  ·simp only [hd,if_false]
   obtain ⟨t1,t2,t3,t4⟩:=I.tmp t ht
   refine ⟨t1,?_,?_,?_⟩
   ·rcases t2 with t2|⟨k,wo,h1,h2,h3⟩
    ·exact .inl t2
    ·exact .inr ⟨k,wo,h1,.inr h2,h3⟩
   ·rintro j wo hj (rfl|hIj) hwo
    ·rw [hvo] at hwo;cases hwo;exact hd
    ·exact t3 j wo hj hIj hwo
   ·have e2:(a.put vo.dst cv).tmps.getD t Go.undef=a.tmps.getD t Go.undef:=by
     cases hq:vo.dst with
     |none=>rfl
     |some d=>
      have:d≠t:=fun e=>hd (by rw [hq,e])
      simp [Act.put,Array.getElem?_setIfInBounds_ne this]
    rw [e2]
    exact VRel.mono (Ren.cut_mono f1 (Nat.le_refl _)) _ _ t4
 case blk=>
  intro b hp
  by_cases hm:Modif vo
  ·have hk:vo.op.kind≠0:=by have:=hm.1;omega
   rw [if_pos (Or.inl hm)]
   have hlt:b<(H (i+1)).next :=by
    rcases pres' b hp with hR|(h|⟨j,hj,h1,h2⟩)
    ·exact hR.2
    ·omega
    ·obtain ⟨wo,hwo⟩:=C.vo (I.lt j hj)
     have hkj:wo.op.kind≠0:=by
      intro hk0
      have:=(C.trace j wo hwo).idle hk0
      rw [this] at h2;omega
     rcases C.full i vo hvo hm.2 j wo hwo hkj with h|⟨h,_⟩|⟨h,hb⟩
     ·subst h;exact absurd hj hin
     ·have:=(C.ext (show j+1≤i+1 by omega) (by omega)).next;omega
     ·exact absurd (I.clo j hj i hb) hin
   refine ⟨by omega,hlt,.inr ⟨i,vo,rfl,.inl rfl,hvo,.inl hm⟩,?_,?_⟩
   ·rintro j wo hj (rfl|hIj) hwo
    ·omega
    ·refine ⟨fun hmj=>(by have:=(modif_before C I hin hi0 hbef hvo hk hwo hmj).1 hIj;omega),fun hbj=> ?_⟩
     obtain ⟨_,hkj,_⟩:=C.bsee hwo hbj
     rcases C.full i vo hvo hm.2 j wo hwo (by omega) with h|⟨h,_⟩|⟨h,hb⟩
     ·omega
     ·omega
     ·exact hin (I.clo j hIj i hb)
   ·intro x hx
    rcases W.kind with ⟨_,e,_⟩|⟨hnm,_⟩|⟨hnm,_⟩
    ·obtain ⟨l,h1,h2⟩:=p.hrel.blk b x (by rw [e];exact hx)
     exact ⟨l,f2 _ _ h1,h2.mono f2' rfl⟩
    ·exact absurd hm hnm
    ·exact absurd hm hnm
  ·by_cases hN:R b∨b∈B i
   ·rw [if_pos (Or.inr hN)]
    have hk:vo.op.kind≠0:=by
     rcases hN with hR|hB
     ·exact kindR b hR
     ·have:=(C.bsee hvo hB).2.1;omega
    have hlt:b<(H (i+1)).next :=by
     rcases hN with hR|hB
     ·exact hR.2
     ·have:=(oldB b hB).1;omega
    refine ⟨by omega,hlt,.inr ⟨i,vo,rfl,.inl rfl,hvo,.inr hN⟩,?_,?_⟩
    ·rintro j wo hj (rfl|hIj) hwo
     ·omega
     ·refine ⟨fun hmj=>(by have:=(modif_before C I hin hi0 hbef hvo hk hwo hmj).1 hIj;omega),fun hbj=> ?_⟩
      rcases hN with hR|hB
      ·exact later j wo b hj hIj hwo hk hbj (C.gmade hi0 hR.1 hR.2)
      ·rcases C.bafter hvo hB with q|q
       ·exact later j wo b hj hIj hwo hk hbj q
       ·exact goneL j wo b hj hIj hwo hbj hlt q
    ·intro x hx
     obtain ⟨l,h1,h2⟩:=p.hrel.blk b x (getR b x hN hx)
     exact ⟨l,f2 _ _ h1,h2.mono f2' rfl⟩
   ·rw [if_neg (by rintro (h|h);exact hm h;exact hN h)]
    have hR: ¬ R b:=fun h=>hN (.inl h)
    have hBi:b ∉ B i:=fun h=>hN (.inr h)
    have hpI:=(pres' b hp).resolve_left hR
    obtain ⟨m1,m2,m3,m4,m5⟩:=I.blk b hpI
    refine ⟨m1,m2,?_,?_,?_⟩
    ·rcases m3 with m3|⟨k,wo,h1,h2,h3⟩
     ·exact .inl m3
     ·exact .inr ⟨k,wo,h1,.inr h2,h3⟩
    ·rintro j wo hj (rfl|hIj) hwo
     ·rw [hvo] at hwo;cases hwo;exact ⟨hm,hBi⟩
     ·exact m4 j wo hj hIj hwo
    ·intro x hx
     obtain ⟨l,h1,h2⟩:=m5 x hx
     exact ⟨l,f1 _ _ h1,h2.mono (Ren.cut_mono f1 (Nat.le_refl _)) (still hm b x l hpI hx h1 hBi)⟩
 case inj=>
  intro b b' x x' l l' hp hp' hg hg' r r' hc
  by_cases hm:Modif vo
  ·rw [if_pos (Or.inl hm)] at hg hg'
   rcases W.kind with ⟨_,e,_⟩|⟨hnm,_⟩|⟨hnm,_⟩
   ·rw [←e] at hg hg'
    obtain ⟨l2,h1,_⟩:=p.hrel.blk b x hg
    obtain ⟨l2',h1',_⟩:=p.hrel.blk b' x' hg'
    have q1:=f2 _ _ h1
    rw [r] at q1;cases q1
    have q2:=f2 _ _ h1'
    rw [r'] at q2;cases q2
    have:=p.hrel.inj b b' x x' l l' hg hg' h1 h1' hc
    rw [p.base,base_eq C I hin hi0 hbef hvo W] at this
    exact this
   ·exact absurd hm hnm
   ·exact absurd hm hnm
  ·have old: ∀ b x l,Pres H In b→(H (M b)).get b=some x→ρ b=some l→l.c<w.heap.size:=by
    intro b x l hp hg r
    obtain ⟨l2,h1,h2⟩:=(I.blk b hp).2.2.2.2 x hg
    rw [r] at h1;cases h1
    exact h2.lt
   have cross: ∀ (b b':Nat) (x':Blk) (l l':Loc),(R b∨b∈B i)→ ¬ (R b'∨b'∈B i)→Pres H (fun k=>k=i∨In k) b'→(H (M b')).get b'=some x'→ρn b=some l→ρn b'=some l'→l.c=l'.c→b=b'∨(b<(H 0).base ∧b'<(H 0).base):=by
    intro b b' x' l l' hN hN' hp' hg' r r' hc
    have hR': ¬ R b':=fun h=>hN' (.inl h)
    rw [rn_out b' hR'] at r'
    have hpI:=(pres' b' hp').resolve_left hR'
    rcases hN with hR|hB
    ·rw [rn_in b hR] at r
     rcases newloc hm b l hR r with h1|⟨b0,x0,l0,q1,q2,q3,q4,q5⟩
     ·have h2:=old b' x' l' hpI hg' r'
      omega
     ·obtain ⟨s1,s2,s3⟩:=seen C I hin hi0 hbef hvo W q2
      rcases I.inj b0 b' x0 x' l0 l' (W.vis b0 x0 q2).2.1 hpI s2 hg' q4 r' (by omega) with rfl|⟨z,_⟩
      ·exact absurd (.inr q1) hN'
      ·omega
    ·obtain ⟨s1,s2,x0,s3⟩:=oldB b hB
     rw [rn_out b (pres_out b s2)] at r
     exact I.inj b b' x0 x' l l' s2 hpI s3 hg' r r' hc
   by_cases hR:R b∨b∈B i<;>by_cases hR':R b'∨b'∈B i
   ·rw [if_pos (Or.inr hR)] at hg
    rw [if_pos (Or.inr hR')] at hg'
    have up: ∀ b l x,(H (i+1)).get b=some x→(R b∨b∈B i)→ρn b=some l→ρ' b=some l:=by
     intro b l x hg hN r
     obtain ⟨l2,q1,_⟩:=p.hrel.blk b x (getR b x hN hg)
     have:=f2 _ _ q1
     rw [r] at this;cases this;exact q1
    have:=p.hrel.inj b b' x x' l l' (getR b x hR hg) (getR b' x' hR' hg') (up b l x hg hR r) (up b' l' x' hg' hR' r') hc
    rw [p.base,base_eq C I hin hi0 hbef hvo W] at this
    exact this
   ·rw [if_neg (by rintro (h|h);exact hm h;exact hR' h)] at hg'
    exact cross b b' x' l l' hR hR' hp' hg' r r' hc
   ·rw [if_neg (by rintro (h|h);exact hm h;exact hR h)] at hg
    rcases cross b' b x l' l hR' hR hp hg r' r hc.symm with h|⟨h1,h2⟩
    ·exact .inl h.symm
    ·exact .inr ⟨h2,h1⟩
   ·rw [if_neg (by rintro (h|h);exact hm h;exact hR h)] at hg
    rw [if_neg (by rintro (h|h);exact hm h;exact hR' h)] at hg'
    have nR: ¬ R b:=fun h=>hR (.inl h)
    have nR': ¬ R b':=fun h=>hR' (.inl h)
    rw [rn_out b nR] at r
    rw [rn_out b' nR'] at r'
    exact I.inj b b' x x' l l' ((pres' b hp).resolve_left nR) ((pres' b' hp').resolve_left nR') hg hg' r r' hc
 case os=>exact p.os.trans I.os
 case tape=>exact p.tape.trans I.tape
 case output=>exact p.output.trans I.output
 case size=>exact Nat.le_trans I.size p.size
 case frame=>
  intro c hc hk
  rw [p.frame c (Nat.lt_of_lt_of_le hc I.size) ?_]
  ·exact I.frame c hc hk
  ·intro b x l hg hf hl hcc
   rcases written C I hin hi0 hbef hvo hr0 W hg hf hl with h|⟨b0,x0,l0,h1,h2,h3,h4⟩
   ·omega
   ·exact hk b0 x0 l0 h1 h2 h3 (by omega)
 case fresh=>
  intro b l e hn
  by_cases hR:R b
  ·rw [rn_in b hR] at e
   have hc:(ρ.cut (H i).next) b=none:=by unfold Ren.cut;rw [if_neg (by have:=hR.1;omega)]
   rcases p.fresh b l e hc with h|⟨b0,x0,l0,h1,h2,h3,h4⟩
   ·exact .inl (Nat.le_trans I.size h)
   ·rcases written C I hin hi0 hbef hvo hr0 W h1 h2 h3 with h|⟨b1,x1,l1,q1,q2,q3,q4⟩
    ·exact .inl (by omega)
    ·exact .inr ⟨b1,x1,l1,q1,q2,q3,by omega⟩
  ·rw [rn_out b hR] at e
   exact I.fresh b l e hn
end
end Go.V
end
section
namespace Go.V
variable [Gd]
theorem VRels.ofGet {ρ:Ren}: ∀ (l:List Val) (l':List Value),l.length=l'.length→(∀ t,t<l.length→VRel ρ (l.getD t .undef) (l'.getD t Go.undef))→VRels ρ l l'
 |[],[],_,_=>.nil
 |x::l,y::l',e,h=>by
  refine .cons (by simpa using h 0 (by simp)) (VRels.ofGet l l' (by simpa using e) fun t ht=> ?_)
  simpa using h (t+1) (by simpa using ht)
 |[],_::_,e,_=>by simp at e
 |_::_,[],e,_=>by simp at e
theorem FRel.ofGet {ρ:Ren} {fr:List Val} {a:Act} (e:a.tmps.size=fr.length) (h: ∀ t,t<fr.length→VRel ρ (fr.getD t .undef) (a.tmps.getD t Go.undef)):FRel ρ fr a:=by
 refine VRels.ofGet _ _ (by simpa using e.symm) fun t ht=> ?_
 have e2:a.tmps.toList.getD t Go.undef=a.tmps.getD t Go.undef:=by simp [Array.getD_eq_getD_getElem?,List.getD_eq_getElem?_getD]
 rw [e2];exact h t ht
def patchF (ns:List Nat) (fr:List Val):List Val:=fr.mapIdx fun t v=>if t∈ns then v else .undef
def patchA (ns:List Nat) (a:Act):Act:={a with tmps:=a.tmps.mapIdx fun t v=>if t∈ns then v else Go.undef}
omit [Gd] in
theorem patchF_getD {ns:List Nat} {fr:List Val} {t:Nat} (h:t∈ns):(patchF ns fr).getD t .undef =fr.getD t .undef :=by
 simp only [patchF,List.getD_eq_getElem?_getD,List.getElem?_mapIdx]
 cases fr[t]? with
 |none=>rfl
 |some x=>simp [h]
omit [Gd] in
theorem patchF_out {ns:List Nat} {fr:List Val} {t:Nat} (h:t ∉ ns):(patchF ns fr).getD t .undef =.undef :=by
 simp only [patchF,List.getD_eq_getElem?_getD,List.getElem?_mapIdx]
 cases fr[t]? with
 |none=>rfl
 |some x=>simp [h]
omit [Gd] in
theorem patchA_get {ns:List Nat} {a:Act} {t:Nat} (h:t∈ns):(patchA ns a).tmps[t]? =a.tmps[t]? :=by
 simp only [patchA,Array.getElem?_mapIdx]
 cases a.tmps[t]? with
 |none=>rfl
 |some x=>simp [h]
omit [Gd] in
theorem patchA_out {ns:List Nat} {a:Act} {t:Nat} (h:t ∉ ns):(patchA ns a).tmps.getD t Go.undef=Go.undef:=by
 simp only [patchA,Array.getD_eq_getD_getElem?,Array.getElem?_mapIdx]
 cases a.tmps[t]? with
 |none=>rfl
 |some x=>simp [h]
theorem wanted_congr {fr fr':List Val} {g:Option (Nat×Bool)} (h: ∀ t∈(match g with|some (t,_)=>[t]|none=>([]:List Nat)),fr.getD t .undef =fr'.getD t .undef):wanted fr g=wanted fr' g:=by
 cases g with
 |none=>rfl
 |some p=>obtain ⟨t,b⟩:=p;simp only [wanted,h t (by simp)]
theorem wantedR_congr {ops:Array Oper} {o:Oper} {a a':Act} {g:Option (Nat×Bool)} (hg:cGuard ops o.guard=some g) (h: ∀ t∈(match g with|some (t,_)=>[t]|none=>([]:List Nat)),a.tmps[t]? =a'.tmps[t]?):Region.wanted o (yielded ops a.tmps)=Region.wanted o (yielded ops a'.tmps):=by
 unfold Region.wanted
 cases ho:o.guard with
 |none=>rfl
 |some jw=>
  obtain ⟨j,want⟩:=jw
  rw [ho] at hg
  simp only [cGuard] at hg
  split at hg
  ·rename_i t ht
   simp only [Option.some.injEq] at hg;subst hg
   simp only [yielded,ht,Option.bind_some,h t (by simp)]
  ·cases hg
section
variable {P:Program} {meth:TypeId→Val→String→Option (FuncId×Val)} {call:CallT} {ops:Array Oper} {vl:List VOper} {F:Nat→List Val} {H:Nat→Heap} {B:Nat→List Nat} {G:Nat→Nat×Nat}
 (C:Ctx P meth call ops vl F H B G) {ρ0:Ren} {w0:World} {a0:Act} {In:Nat→Prop} {a:Act} {w:World} {ρ:Ren} {T M:Nat→Nat} (I:Inv ops vl F H B ρ0 w0 a0 In a w ρ T M)
 {i:Nat} (hin: ¬ In i) (hi0:i<ops.size) (hbef: ∀ j,Bef ops i j→In j) {vo:VOper} (hvo:vl[i]? =some vo)
include C I hin hi0 hbef hvo
theorem patched {o:Oper} (ho:ops[i]? =some o):FRel (ρ.cut (H i).next) (patchF (namesOf o vo) (F i)) (patchA (namesOf o vo) a):=by
 have hl:(F i).length =(F 0).length :=C.flen (by omega)
 refine FRel.ofGet (by simp [patchA,patchF,I.tsz,hl]) fun t ht=> ?_
 have htl:t<(F 0).length :=by simpa [patchF,hl] using ht
 by_cases hn:t∈namesOf o vo
 ·rw [patchF_getD hn,Array.getD_eq_getD_getElem?,patchA_get hn,←Array.getD_eq_getD_getElem?]
  exact named C I hin hi0 hbef hvo ho hn htl
 ·rw [patchF_out hn,patchA_out hn];exact rel_undef
omit hvo in
theorem present {b:Nat} {x:Blk} (hx:(H i).t.get b=some x) (hall: ∀ j wo,j<i→vl[j]? =some wo→wo.op.kind≠0→(H j).next ≤b→b<(H (j+1)).next →In j):Pres H In b:=by
 have hb:b<(H i).next :=by
  rcases Nat.lt_or_ge b (H i).next with h|h
  ·exact h
  ·rw [C.lowi (by omega) b h] at hx;cases hx
 rcases Nat.lt_or_ge b (H 0).next with h0|h0
 ·exact .inl h0
 ·obtain ⟨j,wo,h1,h2,h3,h4,h5⟩:=C.maker (show i≤ops.size by omega) h0 hb
  exact .inr ⟨j,hall j wo h1 h2 h3 h4 h5,h4,h5⟩
theorem vis_full (hm:Modif vo) {b:Nat}: ∀ k,b∈B k→(In k→k<i)∧(k<i→In k):=by
 have main: ∀ k wo,vl[k]? =some wo→b∈B k→(k<i∧In k)∨(¬ k<i∧ ¬ In k):=by
  intro k wo hwo hb
  obtain ⟨hnm,hk2,_⟩:=C.bsee hwo hb
  rcases C.full i vo hvo hm.2 k wo hwo (by omega) with h|⟨h,hb⟩|⟨h,hb⟩
  ·subst h
   rw [hvo] at hwo;cases hwo
   exact absurd hm hnm
  ·exact .inl ⟨h,hbef k hb⟩
  ·exact .inr ⟨by omega,fun hI=>hin (I.clo k hI i hb)⟩
 intro k hb
 refine ⟨fun hI=> ?_,fun hlt=> ?_⟩
 ·obtain ⟨wo,hwo⟩:=C.vo (I.lt k hI)
  rcases main k wo hwo hb with h|h
  ·exact h.1
  ·exact absurd hI h.2
 ·obtain ⟨wo,hwo⟩:=C.vo (show k<ops.size by omega)
  rcases main k wo hwo hb with h|h
  ·exact h.2
  ·exact absurd hlt h.1
theorem how_full (hm:Modif vo):How H B In i vo (H i) (H (i+1)):=by
 refine ⟨rfl,rfl,rfl,rfl,.inl ⟨rfl,rfl,hm⟩,fun _ h=>h,?_,?_,?_,rfl⟩
 ·intro b _ h
  have e:=(C.ext (Nat.le_succ i) (by omega)).hid
  unfold Heap.hidden at h ⊢;rw [e];exact h
 ·intro b x hg
  refine ⟨by have:=hm.1;omega,present C I hin hi0 hbef (Heap.get_t hg) fun j wo hj hwo hk _ _=> ?_,vis_full C I hin hi0 hbef hvo hm⟩
  rcases C.full i vo hvo hm.2 j wo hwo hk with h|⟨_,h⟩|⟨h,_⟩
  ·omega
  ·exact hbef j h
  ·omega
 ·intro b hb
  exact absurd hm (C.bsee hvo hb).1
theorem how_blind (hm: ¬ Modif vo) (hB:B i=[]) (hs:(H (i+1)).hid =(H i).hid):How H B In i vo {H i with hid:=(0,(H i).next)::(H i).hid,floor:=(H i).next} {H (i+1) with hid:=(0,(H i).next)::(H i).hid,floor:=(H i).next}:=by
 refine ⟨rfl,rfl,rfl,rfl,.inr (.inl ⟨hm,rfl,hB⟩),?_,?_,?_,?_,rfl⟩
 ·intro b h
  simp only [Heap.hidden,List.any_cons,Bool.or_eq_false_iff] at h ⊢
  exact h.2
 ·intro b hb h
  simp only [Heap.hidden,List.any_cons,Bool.or_eq_false_iff] at h ⊢
  refine ⟨?_,h⟩
  rcases hb with hb|hb
  ·simp;omega
  ·rw [hB] at hb;cases hb
 ·intro b x hg
  have h1:=Heap.get_nh hg
  have h2:=Heap.get_t hg
  simp only [Heap.hidden,List.any_cons,Bool.or_eq_false_iff] at h1
  have h3:=h1.1
  simp at h3
  rw [C.lowi (show i≤ops.size by omega) b h3] at h2;cases h2
 ·intro b hb
  rw [hB] at hb;cases hb
end
omit [Gd] in
theorem mem_hiddenOf {rs:List (Nat×Nat)}: ∀ {l:List Nat} {j:Nat},j∈l→(rs.getD j (0,0)).1<(rs.getD j (0,0)).2→rs.getD j (0,0)∈hiddenOf rs l
 |k::l,j,h,q=>by
  rw [hiddenOf]
  rcases List.mem_cons.1 h with h|h
  ·subst h;rw [if_pos q];exact List.mem_cons_self
  ·split
   ·exact List.mem_cons_of_mem _ (mem_hiddenOf h q)
   ·exact mem_hiddenOf h q
 |[],j,h,_=>by simp at h
omit [Gd] in
theorem hiddenOf_mem' {rs:List (Nat×Nat)}: ∀ {l:List Nat} {p:Nat×Nat},p∈hiddenOf rs l→ ∃ j∈l,p=rs.getD j (0,0)
 |[],p,h=>by simp [hiddenOf] at h
 |k::l,p,h=>by
  rw [hiddenOf] at h
  split at h
  ·rcases List.mem_cons.1 h with h|h
   ·exact ⟨k,by simp,h⟩
   ·obtain ⟨j,h1,h2⟩:=hiddenOf_mem' h
    exact ⟨j,by simp [h1],h2⟩
  ·obtain ⟨j,h1,h2⟩:=hiddenOf_mem' h
   exact ⟨j,by simp [h1],h2⟩
theorem rangesTo_get {G:Nat→Nat×Nat} {i j:Nat} (h:j<i):(rangesTo G i).getD j (0,0)=G j:=by
 simp [rangesTo,List.getD_eq_getElem?_getD,h]
theorem rangesTo_out {G:Nat→Nat×Nat} {i j:Nat} (h:i≤j):(rangesTo G i).getD j (0,0)=(0,0):=by
 simp [rangesTo,List.getD_eq_getElem?_getD,h]
theorem Post.dropL {ρ ρ':Ren} {h:Heap} {w w':World} (hr:HRel ρ h w): ∀ {bs:List Nat} {h':Heap},Post ρ h w ρ' h' w'→Post ρ h w ρ' (V.dropL bs h') w'
 |[],_,p=>p
 |b::r,h',p=>Post.dropL hr (bs:=r) (p.trans (.kill p.hrel b) hr)
theorem Post.wrEnd {ρ ρ':Ren} {h:Heap} {w w':World} (hr:HRel ρ h w) {o:VOp} {bs:List Nat} {h':Heap} (p:Post ρ h w ρ' h' w'):Post ρ h w ρ' (V.wrEnd o bs h') w':=by
 unfold V.wrEnd
 split
 ·exact p.dropL hr
 ·exact p
omit [Gd] in
theorem dropL_rehid {A:List (Nat×Nat)}: ∀ {bs:List Nat} {h:Heap},V.dropL bs {h with hid:=A}={V.dropL bs h with hid:=A}
 |[],h=>rfl
 |b::r,h=>by
  rw [V.dropL,V.dropL]
  exact dropL_rehid (bs:=r) (h:=h.put b none)
omit [Gd] in
theorem wrEnd_rehid {o:VOp} {bs:List Nat} {h:Heap} {A:List (Nat×Nat)}:V.wrEnd o bs {h with hid:=A}={V.wrEnd o bs h with hid:=A}:=by
 unfold V.wrEnd
 split
 ·exact dropL_rehid
 ·rfl
omit [Gd] in
theorem wrEnd_t {o:VOp} {bs:List Nat} {h:Heap} {A B:List (Nat×Nat)}:(V.wrEnd o bs {h with hid:=A}).t =(V.wrEnd o bs {h with hid:=B}).t :=by
 rw [wrEnd_rehid (A:=A),wrEnd_rehid (A:=B)]
section
variable {P:Program} {meth:TypeId→Val→String→Option (FuncId×Val)} {call:CallT} {ops:Array Oper} {vl:List VOper} {F:Nat→List Val} {H:Nat→Heap} {B:Nat→List Nat} {G:Nat→Nat×Nat}
 (C:Ctx P meth call ops vl F H B G) {ρ0:Ren} {w0:World} {a0:Act} {In:Nat→Prop} {a:Act} {w:World} {ρ:Ren} {T M:Nat→Nat} (I:Inv ops vl F H B ρ0 w0 a0 In a w ρ T M)
 {i:Nat} (hin: ¬ In i) (hi0:i<ops.size) (hbef: ∀ j,Bef ops i j→In j) {vo:VOper} (hvo:vl[i]? =some vo)
include C
theorem Ctx.gtop {j b:Nat} (hj:j<ops.size) (h2:b<(G j).2):b<(H (j+1)).next :=by
 obtain ⟨vo,hvo⟩:=C.vo hj
 have hx:(H j).next ≤(H (j+1)).next :=(C.ext (Nat.le_succ j) (by omega)).next
 rcases C.trace j vo hvo with ⟨_,_,_,_,e⟩|⟨_,v,_,⟨_,_,_,e⟩|⟨_,_,_,e,_⟩|⟨hk,hf,hw,hok,e,q,hs,e2⟩⟩
 ·rw [e] at h2;exact h2
 ·rw [e] at h2;exact h2
 ·rw [e] at h2;exact h2
 ·rw [e] at h2
  unfold wrRange at h2
  split at h2
  ·exact h2
  ·rename_i c r hbs _
   have hc:c∈B j:=by rw [hbs];exact List.mem_cons_self ..
   obtain ⟨_,_,_,⟨x,hx2⟩,_⟩:=C.bsee hvo hc
   have:=Heap.get_t hx2
   rcases Nat.lt_or_ge c (H j).next with z|z
   ·simp only at h2;omega
   ·rw [C.lowi (show j≤ops.size by omega) c z] at this;cases this
  ·simp only at h2;omega
theorem Ctx.unseen_load {k:Nat} {bs:List Nat} (hik:i<k) (hk:k≤ops.size) (hvo:vl[i]? =some vo) (hk2:2≤vo.op.kind) (hu:unseen vl (F k) bs i=true):
  ∃ agg n t c o,vo.op=.load agg n (.t t)∧(F i).getD t .undef =.ptr c o∧c ∉ bs:=by
 unfold unseen at hu
 rw [hvo] at hu
 simp only [Bool.or_eq_true,decide_eq_true_eq] at hu
 rcases hu with hu|hu
 ·omega
 ·split at hu
  ·rename_i agg n t hop
   simp only [Bool.and_eq_true] at hu
   obtain ⟨⟨_,hw⟩,hp⟩:=hu
   have hst:(F k).getD t .undef =(F i).getD t .undef :=by
    refine C.fstable (Nat.le_of_lt hik) hk fun j wo h1 h2 hwo hd=> ?_
    have hm:wo∈vl.drop i:=by
     refine List.mem_iff_getElem?.2 ⟨j - i,?_⟩
     rw [List.getElem?_drop,show i+(j - i)=j by omega];exact hwo
    have:=List.all_eq_true.1 hw wo hm
    simp only [decide_eq_true_eq] at this
    exact this hd
   rw [hst] at hp
   split at hp
   ·rename_i c o hc
    refine ⟨agg,n,t,c,o,hop,hc,?_⟩
    simpa using hp
   ·cases hp
  ·cases hu
include I hin hi0 hbef hvo
theorem vis_part (hk:2≤vo.op.kind) {b:Nat} {x:Blk} (hg:(H i).t.get b=some x) (hh: ∀ j∈vo.hide,j<i→ ¬ ((G j).1≤b∧b<(G j).2)) (hl: ∀ agg n t c o,vo.op=.load agg n (.t t)→(F i).getD t .undef =.ptr c o→b=c):
  Pres H In b∧ ∀ k,b∈B k→(In k→k<i)∧(k<i→In k):=by
 refine ⟨present C I hin hi0 hbef hg fun j wo hj hwo hkj r1 r2=> ?_,fun k hb=>⟨fun hI=> ?_,fun hlt=> ?_⟩⟩
 ·by_cases hbj:Bef ops i j
  ·exact hbef j hbj
  ·exact absurd (C.gmade (by omega) r1 r2) (hh j (C.hide i vo hvo j wo hwo hkj hj hbj) hj)
 ·have hks:=I.lt k hI
  obtain ⟨wo,hwo⟩:=C.vo hks
  rcases Nat.lt_trichotomy k i with h|h|h
  ·exact h
  ·subst h;exact absurd hI hin
  ·exfalso
   have hnb: ¬ Bef ops k i:=fun hb=>hin (I.clo k hI i hb)
   have hm:=C.hide k wo hwo i vo hvo (by omega) h hnb
   obtain ⟨agg,n,t,c,o,h1,h2,h3⟩:=C.unseen_load h (by omega) hvo hk ((C.bsee hwo hb).2.2.2.2.2 i hm)
   have:=hl agg n t c o h1 h2
   subst this
   exact h3 hb
 ·obtain ⟨wo,hwo⟩:=C.vo (show k<ops.size by omega)
  by_cases hbk:Bef ops i k
  ·exact hbef k hbk
  ·exfalso
   have hm:=C.hide i vo hvo k wo hwo (by have:=(C.bsee hwo hb).2.1;omega) hlt hbk
   rcases C.bafter hwo hb with q|q
   ·exact hh k hm hlt q
   ·obtain ⟨_,_,_,⟨y,hy⟩,_⟩:=C.bsee hwo hb
    have hbk:b<(H k).next :=by
     rcases Nat.lt_or_ge b (H k).next with z|z
     ·exact z
     ·have:=Heap.get_t hy
      rw [C.lowi (show k≤ops.size by omega) b z] at this;cases this
    have h3:=(C.ext (show k≤k+1 by omega) (by omega)).next
    have:=(C.ext (show k+1≤i by omega) (by omega)).live b (by omega) q
    rw [hg] at this;cases this
omit I hin hbef hvo in
theorem hid_new {L:List Nat} {b:Nat} (hb:(H i).next ≤b):((hiddenOf (rangesTo G i) L).any fun r=>r.1≤b&&b<r.2)=false:=by
 rw [List.any_eq_false]
 intro p hp
 obtain ⟨j,hj,rfl⟩:=hiddenOf_mem' hp
 rcases Nat.lt_or_ge j i with hji|hji
 ·rw [rangesTo_get hji]
  simp only [Bool.and_eq_true,decide_eq_true_eq,not_and]
  intro _ h2
  have:=C.gtop (by omega) h2
  have:=(C.ext (show j+1≤i by omega) (by omega)).next
  omega
 ·rw [rangesTo_out hji];simp
omit C I hin hi0 hbef hvo in
theorem hid_not {A:List (Nat×Nat)} {h:Heap} {L:List Nat} {b:Nat} (hh:({h with hid:=A++(hiddenOf (rangesTo G i) L++h.hid)}:Heap).hidden b=false):
  (A.any fun r=>r.1≤b&&b<r.2)=false∧h.hidden b=false∧ ∀ j∈L,j<i→ ¬ ((G j).1≤b∧b<(G j).2):=by
 simp only [Heap.hidden,List.any_append,Bool.or_eq_false_iff] at hh
 refine ⟨hh.1,hh.2.2,fun j hj hji hin=> ?_⟩
 have h3:=List.any_eq_false.1 hh.2.1 _ (mem_hiddenOf (rs:=rangesTo G i) hj (by rw [rangesTo_get hji];omega))
 rw [rangesTo_get hji] at h3
 simp [hin.1,hin.2] at h3
theorem how_part (hk:2≤vo.op.kind) (hf:vo.full=false) (hB:B i=[]) {A:List (Nat×Nat)} (hA: ∀ b,(H i).next ≤b→(A.any fun r=>r.1≤b&&b<r.2)=false)
  (hl: ∀ agg n t c o,vo.op=.load agg n (.t t)→(F i).getD t .undef =.ptr c o→ ∀ b,b<(H i).next →(A.any fun r=>r.1≤b&&b<r.2)=false→b=c)
  {h2:Heap} (e2:h2.hid=A++(hiddenOf (rangesTo G i) vo.hide++(H i).hid)) (e3:H (i+1)={h2 with hid:=(H i).hid,floor:=(H i).floor}):
  How H B In i vo {H i with hid:=A++(hiddenOf (rangesTo G i) vo.hide++(H i).hid),floor:=(H i).next} h2:=by
 refine ⟨rfl,rfl,by rw [e3],by rw [e3],.inr (.inl ⟨(by rintro ⟨_,h⟩;rw [hf] at h;cases h),rfl,hB⟩),?_,?_,?_,?_,rfl⟩
 ·intro b h
  exact (hid_not (G:=G) (i:=i) (h:=H i) (L:=vo.hide) h).2.1
 ·intro b hb h
  rcases hb with hb|hb
  ·unfold Heap.hidden at h ⊢
   rw [e2,List.any_append,List.any_append,h,Bool.or_false,hA b hb,Bool.false_or]
   exact hid_new C hi0 hb
  ·rw [hB] at hb;cases hb
 ·intro b x hg
  have hgt:=Heap.get_t hg
  obtain ⟨q1,q2,q3⟩:=hid_not (G:=G) (i:=i) (h:=H i) (L:=vo.hide) (Heap.get_nh hg)
  have hbn:b<(H i).next :=by
   rcases Nat.lt_or_ge b (H i).next with h|h
   ·exact h
   ·have hgt':(H i).t.get b=some x:=hgt
    rw [C.lowi (by omega) b h] at hgt';cases hgt'
  exact ⟨by omega,vis_part C I hin hi0 hbef hvo hk hgt q3 fun agg n t c o h1 h2=>hl agg n t c o h1 h2 b hbn q1⟩
 ·intro b hb
  rw [hB] at hb;cases hb
theorem how_wr (hk:2≤vo.op.kind) (hf:vo.full=false) (hw:wrBlocks (F i) vo.op=some (B i)) {h2:Heap} (e3:(H (i+1)).t =h2.t∧(H (i+1)).next =h2.next)
  (e2:h2.hid=gaps 0 (B i) (H i).next ++(hiddenOf (rangesTo G i) vo.hide++(H i).hid)):
  How H B In i vo {H i with hid:=gaps 0 (B i) (H i).next ++(hiddenOf (rangesTo G i) vo.hide++(H i).hid)} h2:=by
 have hbn: ∀ b x,(H i).t.get b=some x→b<(H i).next :=by
  intro b x hg
  rcases Nat.lt_or_ge b (H i).next with h|h
  ·exact h
  ·rw [C.lowi (by omega) b h] at hg;cases hg
 have hBn: ∀ b∈B i,b<(H i).next :=fun b hb=>by
  obtain ⟨_,_,_,⟨x,hx⟩,_⟩:=C.bsee hvo hb
  exact hbn b x (Heap.get_t hx)
 have hgo: ∀ b∈B i,((gaps 0 (B i) (H i).next).any fun r=>r.1≤b&&b<r.2)=false:=fun b hb=>gaps_out (wr_asc hw).1 hb hBn
 have hbs: ∀ b∈B i,((hiddenOf (rangesTo G i) vo.hide).any fun r=>r.1≤b&&b<r.2)=false:=by
  intro b hb
  obtain ⟨_,_,_,_,h5,_⟩:=C.bsee hvo hb
  rw [List.any_eq_false]
  intro p hp
  obtain ⟨j,hj,rfl⟩:=hiddenOf_mem' hp
  rcases Nat.lt_or_ge j i with hji|hji
  ·rw [rangesTo_get hji]
   simp only [Bool.and_eq_true,decide_eq_true_eq]
   exact h5 j hj hji
  ·rw [rangesTo_out hji];simp
 have hgn: ∀ {bs:List Nat} {f nx b:Nat},nx≤b→(∀ c∈bs,c<nx)→((gaps f bs nx).any fun r=>r.1≤b&&b<r.2)=false:=by
  intro bs
  induction bs with
  |nil=>
   intro f nx b h1 _
   simp only [gaps,List.any_cons,List.any_nil,Bool.or_false,Bool.and_eq_false_iff,decide_eq_false_iff_not]
   omega
  |cons c bs ih=>
   intro f nx b h1 h2
   simp only [gaps,List.any_cons,Bool.or_eq_false_iff,Bool.and_eq_false_iff,decide_eq_false_iff_not]
   exact ⟨by have:=h2 c (List.mem_cons_self ..);omega,ih h1 fun d hd=>h2 d (List.mem_cons_of_mem _ hd)⟩
 refine ⟨rfl,rfl,e3.1.symm,e3.2.symm,.inr (.inr ⟨(by rintro ⟨_,h⟩;rw [hf] at h;cases h),rfl,?_⟩),?_,?_,?_,?_,rfl⟩
 ·intro b x hg
  obtain ⟨q1,_⟩:=hid_not (G:=G) (i:=i) (h:=H i) (L:=vo.hide) (Heap.get_nh hg)
  have hgt:=Heap.get_t hg
  exact gaps_in (Nat.zero_le _) (hbn b x hgt) q1
 ·intro b h
  exact (hid_not (G:=G) (i:=i) (h:=H i) (L:=vo.hide) h).2.1
 ·intro b hb h
  unfold Heap.hidden at h ⊢
  rw [e2,List.any_append,List.any_append,h,Bool.or_false]
  rcases hb with hb|hb
  ·rw [hgn hb hBn,Bool.false_or];exact hid_new C hi0 hb
  ·rw [hgo b hb,Bool.false_or];exact hbs b hb
 ·intro b x hg
  obtain ⟨q1,q2,q3⟩:=hid_not (G:=G) (i:=i) (h:=H i) (L:=vo.hide) (Heap.get_nh hg)
  have hgt:=Heap.get_t hg
  refine ⟨by omega,vis_part C I hin hi0 hbef hvo hk hgt q3 fun agg n t c o h1 h2=> ?_⟩
  rw [h1] at hw
  cases hw
 ·intro b hb
  obtain ⟨_,_,_,⟨x,hx⟩,_⟩:=C.bsee hvo hb
  refine ⟨x,?_⟩
  have h1:=Heap.get_nh hx
  have h2:=Heap.get_t hx
  unfold Heap.get Heap.hidden
  simp only [List.any_append,hgo b hb,hbs b hb,Bool.false_or]
  unfold Heap.hidden at h1
  rw [h1];exact h2
theorem op_any (hr0:HRel ρ0 (H 0) w0) {o:Oper} (ho:ops[i]? =some o) {K:Act→World→Prop} {Q:Exit→Act→World→Prop} {ro:Option Nat}
  (k: ∀ a' w' ρn T' M',Inv ops vl F H B ρ0 w0 a0 (fun k=>k=i∨In k) a' w' ρn T' M'→K a' w'):wpOpIn (W ro) 0 P ops Q i K a w:=by
 obtain ⟨o',vo',e1,e2,hc,hdst,hg,hsel⟩:=C.get i hi0
 rw [ho] at e1;cases e1
 rw [hvo] at e2;cases e2
 have hp:=patched C I hin hi0 hbef hvo ho
 have hgm: ∀ t∈(match vo.guard with|some (t,_)=>[t]|none=>([]:List Nat)),t∈namesOf o vo:=fun t ht=>List.mem_append_right _ ht
 have hwant: ∀ b,wanted (F i) vo.guard=some b→Region.wanted o (yielded ops a.tmps)=b:=by
  intro b hb
  rw [←wanted_congr (fr:=patchF (namesOf o vo) (F i)) fun t ht=>patchF_getD (hgm t ht)] at hb
  rw [←wanted_rel hp hg hb]
  exact wantedR_congr hg fun t ht=>(patchA_get (hgm t ht)).symm
 have hex:execOp a.eval o=execOp (patchA (namesOf o vo) a).eval o:=by
  refine execOp_congr o (fun cs b h=>by rw [h] at hsel;simp [notSelect] at hsel) fun x hx=> ?_
  cases x with
  |tmp t=>
   have ht:t∈namesOf o vo:=by
    simp only [namesOf,List.mem_append]
    refine .inl (.inl (.inr ?_))
    simp only [operandTmps,List.mem_flatMap]
    exact ⟨_,by simpa using hx,by simp⟩
   simp only [Act.eval,Array.getD_eq_getD_getElem?,patchA_get ht]
  |_=>rfl
 have hstep: ∀ h,step meth call (patchF (namesOf o vo) (F i)) h vo.op=step meth call (F i) h vo.op:=fun h=>step_congr fun t ht=>patchF_getD (by simp only [namesOf,List.mem_append];exact .inl (.inr ht))
 have main2: ∀ (hi hs' hi':Heap) (v:Val),How H B In i vo hi hi'→step meth call (F i) hi vo.op=some (v,hs')→(∀ ρ' w',Post (ρ.cut (H i).next) hi w ρ' hs' w'→Post (ρ.cut (H i).next) hi w ρ' hi' w')→F (i+1)=setDst (F i) vo.dst v→o.wpIn (V.W ro) 0 P a w K Q:=by
  intro hi hs' hi' v W hs hpost hF
  refine op_wp C.ty (inv_hrel C I hin hi0 hbef hvo hr0 W) hp C.ms C.cs hex hc (by rw [hstep];exact hs) fun cv w' ρ' p hv=> ?_
  obtain ⟨ρn,T',M',I'⟩:=inv_step C I hin hi0 hbef hvo hr0 ho hdst W (hpost _ _ p) hv hF
  rw [hdst] at I'
  exact k _ _ _ _ _ I'
 have main: ∀ (hi hi':Heap) (v:Val),How H B In i vo hi hi'→step meth call (F i) hi vo.op=some (v,hi')→F (i+1)=setDst (F i) vo.dst v→o.wpIn (V.W ro) 0 P a w K Q:=fun hi hi' v W hs hF=>main2 hi hi' hi' v W hs (fun _ _ p=>p) hF
 unfold wpOpIn
 simp only [ho]
 rcases C.trace i vo hvo with ⟨hw,hF,hH,hB,_⟩|⟨hw,v,hF,⟨hk,hs,hB,_⟩|⟨hk,hf,hB,_,h2,hs,hH⟩|⟨hk,hf,hwb,hok,_,h2,hs,hH⟩⟩
 ·rw [hwant _ hw]
  simp only [Bool.false_eq_true,if_false]
  refine ⟨fun _ _=>trivial,?_⟩
  by_cases hm:Modif vo
  ·have W:=how_full C I hin hi0 hbef hvo hm
   rw [hH] at W
   have p:=Post.refl (inv_hrel C I hin hi0 hbef hvo hr0 W)
   have W':=how_full C I hin hi0 hbef hvo hm
   obtain ⟨ρn,T',M',I'⟩:=inv_step C I hin hi0 hbef hvo hr0 ho hdst W' (by rw [hH];exact p) rel_undef hF
   rw [hdst] at I'
   exact k _ _ _ _ _ I'
  ·have W:=how_blind C I hin hi0 hbef hvo hm hB (by rw [hH])
   have p:=Post.refl (inv_hrel C I hin hi0 hbef hvo hr0 W)
   obtain ⟨ρn,T',M',I'⟩:=inv_step C I hin hi0 hbef hvo hr0 ho hdst W (by rw [hH];exact p) rel_undef hF
   rw [hdst] at I'
   exact k _ _ _ _ _ I'
 ·rw [hwant _ hw]
  simp only [if_true]
  by_cases hm:Modif vo
  ·exact main _ _ v (how_full C I hin hi0 hbef hvo hm) hs hF
  ·have hk1:vo.op.kind≤1:=by
    rcases hk with hk|hk
    ·exact hk
    ·rcases Nat.lt_or_ge 1 vo.op.kind with h|h
     ·exact absurd ⟨h,hk⟩ hm
     ·exact h
   exact main _ _ v (how_blind C I hin hi0 hbef hvo hm hB (C.ext (Nat.le_succ i) (by omega)).hid) (step_blind hk1 hs _ _) hF
 ·rw [hwant _ hw]
  simp only [if_true]
  by_cases hld: ∃ agg n t c o,vo.op=.load agg n (.t t)∧(F i).getD t .undef =.ptr c o∧c<(H i).next
  ·obtain ⟨agg,n,t,c,o2,h1,h2',h3⟩:=hld
   have hgo:((gaps 0 [c] (H i).next).any fun r=>r.1≤c&&c<r.2)=false:=gaps_out ⟨Nat.zero_le _,trivial⟩ (List.mem_cons_self ..) (by simpa using h3)
   rw [h1] at hs
   obtain ⟨e1,e2⟩:=load_narrow (A:=gaps 0 [c] (H i).next) (show V.ev (F i) (.t t)=.ptr c o2 from h2') hs hgo
   refine main _ {h2 with hid:=gaps 0 [c] (H i).next ++(hiddenOf (rangesTo G i) vo.hide++(H i).hid)} v (how_part C I hin hi0 hbef hvo hk hf hB (A:=gaps 0 [c] (H i).next) ?_ ?_ rfl hH) ?_ hF
   ·intro b hb
    simp only [gaps,List.any_cons,List.any_nil,Bool.or_false,Bool.or_eq_false_iff,Bool.and_eq_false_iff,decide_eq_false_iff_not]
    omega
   ·intro agg' n' t' c' o' q1 q2 b hb q3
    rw [h1] at q1
    cases q1
    rw [h2'] at q2
    cases q2
    simpa using gaps_in (Nat.zero_le b) hb q3
   ·rw [h1,e1];exact e2
  ·refine main _ h2 v (how_part C I hin hi0 hbef hvo hk hf hB (A:=[]) (fun _ _=>rfl) ?_ (step_ext C.ce hs).hid hH) hs hF
   intro agg n t c o2 h1 h2' b hb _
   exfalso
   refine hld ⟨agg,n,t,c,o2,h1,h2',?_⟩
   rcases Nat.lt_or_ge c (H i).next with z|z
   ·exact z
   ·rw [h1] at hs
    simp only [step,show V.ev (F i) (.t t)=.ptr c o2 from h2'] at hs
    have hno:({H i with hid:=hiddenOf (rangesTo G i) vo.hide++(H i).hid,floor:=(H i).next}:Heap).get c=none:=by
     unfold Heap.get
     split
     ·rfl
     ·exact C.lowi (by omega) c z
    unfold Heap.load at hs
    rw [hno] at hs
    cases hs
 ·rw [hwant _ hw]
  simp only [if_true]
  have hnar:=wr_narrow hwb hs (A:=gaps 0 (B i) (H i).next) fun b hb=>gaps_out (wr_asc hwb).1 hb fun c hc=>by
   obtain ⟨_,_,_,⟨x,hx⟩,_⟩:=C.bsee hvo hc
   rcases Nat.lt_or_ge c (H i).next with h|h
   ·exact h
   ·have:=Heap.get_t hx
    rw [C.lowi (by omega) c h] at this;cases this
  refine main2 _ _ (wrEnd vo.op (B i) {h2 with hid:=gaps 0 (B i) (H i).next ++(hiddenOf (rangesTo G i) vo.hide++(H i).hid)}) v (how_wr C I hin hi0 hbef hvo hk hf hwb ?_ ?_) hnar (fun ρ' w' p=> ?_) hF
  ·rw [hH];exact ⟨wrEnd_t,by rw [wrEnd_same.1,wrEnd_same.1]⟩
  ·rw [wrEnd_same.2.1]
  ·have W:=how_wr C I hin hi0 hbef hvo hk hf hwb (h2:=wrEnd vo.op (B i) {h2 with hid:=gaps 0 (B i) (H i).next ++(hiddenOf (rangesTo G i) vo.hide++(H i).hid)}) (by rw [hH];exact ⟨wrEnd_t,by rw [wrEnd_same.1,wrEnd_same.1]⟩) (by rw [wrEnd_same.2.1])
   exact p.wrEnd (inv_hrel C I hin hi0 hbef hvo hr0 W)
end
end Go.V
end
section
namespace Go.V
variable [Gd]
section
variable {P:Program} {meth:TypeId→Val→String→Option (FuncId×Val)} {call:CallT} {ops:Array Oper} {vl:List VOper} {F:Nat→List Val} {H:Nat→Heap} {B:Nat→List Nat} {G:Nat→Nat×Nat}
 (C:Ctx P meth call ops vl F H B G) {ρ0:Ren} {w0:World} {a0:Act}
include C
theorem inv_end (hr0:HRel ρ0 (H 0) w0) {In:Nat→Prop} (hall: ∀ k,k<ops.size→In k) {a:Act} {w:World} {ρ:Ren} {T M:Nat→Nat} (I:Inv ops vl F H B ρ0 w0 a0 In a w ρ T M):
  Post ρ0 (H 0) w0 ρ (H ops.size) w∧FRel ρ (F ops.size) a:=by
 have hx:=C.ext (Nat.zero_le ops.size) (Nat.le_refl _)
 have hlen: ∀ {j wo},vl[j]? =some wo→j<ops.size:=by
  intro j wo h
  have:=(List.getElem?_eq_some_iff.1 h).1
  rw [←C.len];exact this
 have pres: ∀ b x,(H ops.size).get b=some x→Pres H In b:=by
  intro b x hg
  have ht:=Heap.get_t hg
  have hb:b<(H ops.size).next :=by
   rcases Nat.lt_or_ge b (H ops.size).next with h|h
   ·exact h
   ·rw [C.lowi (Nat.le_refl _) b h] at ht;cases ht
  rcases Nat.lt_or_ge b (H 0).next with h0|h0
  ·exact .inl h0
  ·obtain ⟨j,wo,h1,h2,h3,h4,h5⟩:=C.maker (Nat.le_refl ops.size) h0 hb
   exact .inr ⟨j,hall j h1,h4,h5⟩
 have back: ∀ b x,(H ops.size).get b=some x→(H (M b)).get b=some x:=by
  intro b x hg
  obtain ⟨m1,m2,m3,m4,m5⟩:=I.blk b (pres b x hg)
  have hst:=C.hstable m1 (Nat.le_refl _) m2 fun j wo h1 h2 hwo=>m4 j wo h1 (hall j h2) hwo
  have hh:(H (M b)).hidden b=false:=by
   have e1:=(C.ext (Nat.zero_le (M b)) m1).hid
   have:=Heap.get_nh hg
   unfold Heap.hidden at this ⊢
   rw [e1,←hx.hid];exact this
  unfold Heap.get
  rw [hh,←hst,Heap.get_t hg];rfl
 have top: ∀ b,(H ops.size).next ≤b→ρ b=none:=by
  intro b hb
  cases e:ρ b with
  |none=>rfl
  |some l=>
   rcases I.pres b l e with h|⟨j,hj,h1,h2⟩
   ·have:=hx.next;omega
   ·have:=(C.ext (show j+1≤ops.size from I.lt j hj) (Nat.le_refl _)).next;omega
 refine ⟨⟨I.ext,⟨?_,?_,top,?_,?_,fun b l hb e=>I.tight b l (by rw [←hx.base];exact hb) e⟩,hx.hid,hx.floor,hx.base,hx.next,?_,I.os,I.tape,I.output,I.size,I.frame,I.fresh,?_⟩,?_⟩
 ·intro b x hg
  obtain ⟨l,h1,h2⟩:=(I.blk b (pres b x hg)).2.2.2.2 x (back b x hg)
  exact ⟨l,h1,h2.mono (Ren.cut_le _ _) rfl⟩
 ·intro b b' x x' l l' hg hg' r r' hc
  rw [hx.base]
  exact I.inj b b' x x' l l' (pres b x hg) (pres b' x' hg') (back b x hg) (back b' x' hg') r r' hc
 ·intro b x hg
  rcases Nat.lt_or_ge b (H ops.size).next with h|h
  ·exact h
  ·rw [C.lowi (Nat.le_refl _) b h] at hg;cases hg
 ·rw [hx.base,hx.floor];exact ⟨hr0.bs.1,Nat.le_trans hr0.bs.2 hx.next⟩
 ·intro b hb hs
  cases hg:(H ops.size).get b with
  |none=>rw [hg] at hs;cases hs
  |some x=>
   have h1:=Heap.get_nh hg
   have h2:=Heap.get_t hg
   have h3:(H 0).hidden b=false:=by
    unfold Heap.hidden at h1 ⊢
    rw [←hx.hid];exact h1
   unfold Heap.get
   rw [h3]
   cases h0:(H 0).t.get b with
   |none=>rw [hx.live b hb h0] at h2;cases h2
   |some y=>rfl
 ·intro b l e hn
  rcases Nat.lt_or_ge b (H 0).next with h|h
  ·rw [I.old b l h e] at hn;cases hn
  ·exact h
 ·have hl:(F ops.size).length =(F 0).length :=C.flen (Nat.le_refl _)
  refine FRel.ofGet (by rw [I.tsz,hl]) fun t ht=> ?_
  rw [hl] at ht
  obtain ⟨t1,t2,t3,t4⟩:=I.tmp t ht
  rw [C.fstable t1 (Nat.le_refl _) fun j wo h1 h2 hwo=>t3 j wo h1 (hall j h2) hwo]
  exact VRel.mono (Ren.cut_le _ _) _ _ t4
omit C in
theorem inv_start (hr0:HRel ρ0 (H 0) w0) (hf:FRel ρ0 (F 0) a0):Inv ops vl F H B ρ0 w0 a0 (fun _=>False) a0 w0 ρ0 (fun _=>0) (fun _=>0):=by
 have low: ∀ b l,ρ0 b=some l→b<(H 0).next :=by
  intro b l e
  rcases Nat.lt_or_ge b (H 0).next with h|h
  ·exact h
  ·rw [hr0.top b h] at e;cases e
 have cut:ρ0.le (ρ0.cut (H 0).next):=by
  intro b l e
  unfold Ren.cut
  rw [if_pos (low b l e)];exact e
 constructor
 case clo=>intro k h;exact h.elim
 case lt=>intro k h;exact h.elim
 case pres=>intro b l e;exact .inl (low b l e)
 case ext=>exact Ren.le_refl _
 case old=>intro b l _ e;exact e
 case tsz=>have:=hf.length;simpa using this
 case dfr=>rfl
 case tmp=>
  intro t _
  exact ⟨Nat.zero_le _,.inl rfl,fun _ _ _ h=>h.elim,VRel.mono cut _ _ (hf.getD t)⟩
 case blk=>
  intro b hp
  have hb:b<(H 0).next :=by
   rcases hp with h|⟨j,h,_⟩
   ·exact h
   ·exact h.elim
  refine ⟨Nat.zero_le _,hb,.inl rfl,fun _ _ _ h=>h.elim,?_⟩
  intro x hx
  obtain ⟨l,h1,h2⟩:=hr0.blk b x hx
  exact ⟨l,h1,h2.mono cut rfl⟩
 case inj=>
  intro b b' x x' l l' _ _ hg hg' r r' hc
  exact hr0.inj b b' x x' l l' hg hg' r r' hc
 case tight=>exact hr0.tight
 case os=>rfl
 case tape=>rfl
 case output=>rfl
 case size=>exact Nat.le_refl _
 case frame=>intro c _ _;rfl
 case fresh=>intro b l h1 h2;rw [h1] at h2;cases h2
theorem all_any (hr0:HRel ρ0 (H 0) w0) {ro:Option Nat} {Q:Exit→Act→World→Prop} (k: ∀ a' w' ρ',Post ρ0 (H 0) w0 ρ' (H ops.size) w'→FRel ρ' (F ops.size) a'→a'.defers=a0.defers→Q .normal a' w'):
  ∀ (fuel:Nat) (todo:List Nat) (listed:Array Bool) (a:Act) (w:World) (ρ:Ren) (T M:Nat→Nat),listed.size=ops.size→todo.length≤fuel→(∀ j,j<ops.size→listed.getD j false=false→j∈todo)→
   Inv ops vl F H B ρ0 w0 a0 (fun j=>listed.getD j false=true) a w ρ T M→wpAnyIn (W ro) 0 P .any ops Q fuel listed a w:=by
 have stuck: ∀ listed:Array Bool,listed.size=ops.size→Region.ready .any ops listed=[]→ ∀ j,j<ops.size→listed.getD j false=true:=by
  intro listed hsz hr j
  induction j using Nat.strongRecOn with
  |ind j ih=>
   intro hj
   cases hl:listed.getD j false with
   |true=>rfl
   |false=>
    exfalso
    obtain ⟨o,vo,ho,hvo,_⟩:=C.get j hj
    have:j∈Region.ready .any ops listed:=by
     refine mem_ready.2 ⟨?_,o,ho,fun e he hb=>ih e.on (C.edges j o ho e he hb) (Nat.lt_trans (C.edges j o ho e he hb) hj)⟩
     rw [Array.getD_eq_getD_getElem?,Array.getElem?_eq_getElem (by omega)] at hl ⊢
     exact hl
    rw [hr] at this;cases this
 have fin: ∀ (listed:Array Bool) (a:Act) (w:World) (ρ:Ren) (T M:Nat→Nat),(∀ j,j<ops.size→listed.getD j false=true)→
   Inv ops vl F H B ρ0 w0 a0 (fun j=>listed.getD j false=true) a w ρ T M→Q .normal a w:=by
  intro listed a w ρ T M hall I
  obtain ⟨p,f⟩:=inv_end C hr0 hall I
  exact k a w ρ p f I.dfr
 intro fuel
 induction fuel with
 |zero=>
  intro todo listed a w ρ T M hsz hlen hun I
  have h0:todo=[]:=List.eq_nil_of_length_eq_zero (by omega)
  have hall: ∀ j,j<ops.size→listed.getD j false=true:=by
   intro j hj
   cases hl:listed.getD j false with
   |true=>rfl
   |false=>have:=hun j hj hl;rw [h0] at this;cases this
  refine ⟨?_,fin listed a w ρ T M hall I⟩
  rw [List.eq_nil_iff_forall_not_mem]
  intro j hj
  obtain ⟨h1,o,ho,_⟩:=mem_ready.1 hj
  have hlt:=(Array.getElem?_eq_some_iff.1 ho).1
  have:=hall j hlt
  rw [Array.getD_eq_getD_getElem?,Array.getElem?_eq_getElem (by omega)] at h1 this
  simp only [Option.getD_some] at h1 this
  rw [h1] at this;cases this
 |succ fuel ih=>
  intro todo listed a w ρ T M hsz hlen hun I
  refine ⟨fun hr=>fin listed a w ρ T M (stuck listed hsz hr) I,fun i hi=> ?_⟩
  obtain ⟨h1,o,ho,hed⟩:=mem_ready.1 hi
  have hlt:=(Array.getElem?_eq_some_iff.1 ho).1
  have hno:listed.getD i false=false:=by
   rw [Array.getD_eq_getD_getElem?,Array.getElem?_eq_getElem (by omega)] at h1 ⊢
   exact h1
  obtain ⟨vo,hvo⟩:=C.vo hlt
  have hbef: ∀ j,Bef ops i j→listed.getD j false=true:=by
   intro j hb
   obtain ⟨o',ho',e,he,hbi,hj⟩:=before_spec ops i j hb
   rw [ho] at ho';cases ho'
   rcases hj with hj|hj
   ·rw [←hj];exact hed e he hbi
   ·exact I.clo e.on (hed e he hbi) j hj
  refine op_any C I (by simp [hno]) hlt hbef hvo hr0 ho fun a' w' ρn T' M' I'=> ?_
  refine ih (todo.erase i) _ a' w' ρn T' M' (by simpa using hsz) ?_ ?_ ?_
  ·rw [List.length_erase_of_mem (hun i hlt hno)];omega
  ·intro j hj hl
   have hne:j≠i:=by
    rintro rfl
    rw [Array.getD_eq_getD_getElem?,Array.getElem?_setIfInBounds_self_of_lt (by omega)] at hl
    cases hl
   rw [List.mem_erase_of_ne hne]
   refine hun j hj ?_
   rw [Array.getD_eq_getD_getElem?,Array.getElem?_setIfInBounds_ne (Ne.symm hne)] at hl
   rw [Array.getD_eq_getD_getElem?];exact hl
  ·have:(fun j=>(listed.setIfInBounds i true).getD j false=true)=fun k=>k=i∨listed.getD k false=true:=by
    funext j
    apply propext
    by_cases hne:j=i
    ·subst hne
     rw [Array.getD_eq_getD_getElem?,Array.getElem?_setIfInBounds_self_of_lt (by omega)]
     simp
    ·rw [Array.getD_eq_getD_getElem?,Array.getElem?_setIfInBounds_ne (Ne.symm hne),←Array.getD_eq_getD_getElem?]
     simp [hne]
   rw [this];exact I'
end
theorem draw_ok (P:Program):DrawOk P:=by
 intro hty ro meth hms call hcs hce id ops vl fr fr' h h' ρ w a Q hc hrun hr hf k
 unfold cRegion at hc
 split at hc
 ·cases hc
 ·rename_i vs hvs
  simp only [if_true] at hc
  split at hc
  ·rename_i l hl
   split at hc
   ·rename_i hchk
    simp only [Option.some.injEq,VC.draw.injEq] at hc
    subst hc
    simp only [Bool.and_eq_true] at hchk
    obtain ⟨⟨⟨hm,htm⟩,hed⟩,hsel⟩:=hchk
    obtain ⟨F,H,B,G,f0,g0,fn,gn,htr⟩:=draw_trace l [] fr fr' h h' hrun
    obtain ⟨len1,len2,hget⟩:=cOpers_get ops.toList vs 0 l hl
    have hlen:l.length=ops.size:=by simpa using len1.symm
    have hg: ∀ i,i<ops.size→ ∃ o v vo,ops[i]? =some o∧vs[i]? =some v∧l[i]? =some vo∧cOp P o=some v∧vo.op=v∧vo.dst=o.dst∧cGuard ops o.guard=some vo.guard∧
      (vo.full=true→ ∀ j∈touching vs 0,j=i∨(j<i∧((Region.before ops).getD i 0).testBit j=true)∨(i<j∧((Region.before ops).getD j 0).testBit i=true))∧
      (∀ j∈touching vs 0,j<i→((Region.before ops).getD i 0).testBit j=false→j∈vo.hide):=by
     intro i hi
     have h1:ops.toList[i]? =some ops[i]:=by simp [hi]
     have h2:vs[i]? =some (vs[i]'(by omega)):=by rw [List.getElem?_eq_getElem]
     obtain ⟨vo,q1,q2,q3,q4,q5,q6⟩:=hget i _ _ h1 h2
     simp only [Nat.zero_add] at q5 q6
     exact ⟨ops[i],_,vo,by simp [hi],h2,q1,cOps_get hvs i _ _ h1 h2,q2,q3,q4,q5,q6⟩
    have lt_of: ∀ {i vo},l[i]? =some vo→i<ops.size:=by
     intro i vo h
     have:=(List.getElem?_eq_some_iff.1 h).1
     omega
    have touch: ∀ j wo,l[j]? =some wo→wo.op.kind≠0→j∈touching vs 0:=by
     intro j wo hj hk
     obtain ⟨o,v,vo,e1,e2,e3,_,e4,_⟩:=hg j (lt_of hj)
     rw [hj] at e3;cases e3
     exact (touching_mem vs 0 j).2 ⟨j,v,e2,by rw [←e4];exact hk,by omega⟩
    have C:Ctx P meth call ops l F H B G:=by
     constructor
     case ms=>exact hms
     case ty=>exact hty
     case cs=>exact hcs
     case ce=>exact hce
     case len=>exact hlen
     case get=>
      intro i hi
      obtain ⟨o,v,vo,e1,e2,e3,e4,e5,e6,e7,_⟩:=hg i hi
      refine ⟨o,vo,e1,e3,by rw [e5];exact e4,e6,e7,?_⟩
      have:=List.all_eq_true.1 hsel o (List.mem_of_getElem? (i:=i) (by simpa using e1))
      exact this
     case full=>
      intro i vo hvo hfu j wo hwo hk
      obtain ⟨o,v,vo',e1,e2,e3,e4,e5,e6,e7,e8,_⟩:=hg i (lt_of hvo)
      rw [hvo] at e3;cases e3
      exact e8 hfu j (touch j wo hwo hk)
     case hide=>
      intro i vo hvo j wo hwo hk hj hnb
      obtain ⟨o,v,vo',e1,e2,e3,e4,e5,e6,e7,e8,e9⟩:=hg i (lt_of hvo)
      rw [hvo] at e3;cases e3
      refine e9 j (touch j wo hwo hk) hj ?_
      cases hb:((Region.before ops).getD i 0).testBit j with
      |true=>exact absurd hb hnb
      |false=>rfl
     case names=>
      intro i o vo ho hvo t ht j wo hwo hd
      have:=tmpsOk_get ops.toList l 0 htm i o vo (by simpa using ho) hvo t ht t j (by have:=writersOf_mem l 0 j wo t hwo hd;rwa [Nat.zero_add] at this) rfl
      simpa [Bef] using this
     case edges=>
      intro i o ho e he hb
      have:=edgesOk_get ops.toList 0 hed i o (by simpa using ho) e he hb
      omega
     case trace=>
      intro i vo hvo
      have:=htr i vo hvo
      simpa using this
     case low0=>
      intro b hb
      rw [g0] at hb ⊢
      cases e:h.t.get b with
      |none=>rfl
      |some x=>have:=hr.low b x e;omega
    refine wpIn_region_any hm ?_
    have pd:Post ρ h w ρ h {w with drawn:=w.drawn+1}:=Post.draw hr rfl rfl rfl rfl
    have hr1:HRel ρ (H 0) {w with drawn:=w.drawn+1}:=by rw [g0];exact pd.hrel
    have hf1:FRel ρ (F 0) a:=by rw [f0];exact hf
    refine all_any C (a0:=a) hr1 ?_ ops.size (List.range ops.size) (Array.replicate ops.size false) a _ ρ (fun _=>0) (fun _=>0) (by simp) (by simp) (fun j hj _=>by simpa using hj) ?_
    ·intro a' w' ρ' p f d
     rw [hlen] at fn gn
     rw [fn] at f
     rw [gn,g0] at p
     exact k a' w' ρ' (pd.trans p hr) f d
    ·have:(fun j=>(Array.replicate ops.size false).getD j false=true)=fun _=>False:=by
      funext j
      apply propext
      refine ⟨fun hh=> ?_,False.elim⟩
      rw [Array.getD_eq_getD_getElem?,Array.getElem?_replicate] at hh
      split at hh<;>simp at hh
     rw [this]
     exact inv_start hr1 hf1
   ·cases hc
  ·cases hc
end Go.V
end
section
namespace Go.V
variable [Gd]
theorem run_sound {P:Program} {E:Env} (hE:EnvOk P E) (hpe:PrimsExt E) (n:Nat):CallSound P (run E n):=(exec_sound (draw_ok P) hE hpe n).2
abbrev gdOf (P:Program) (E:Env):Gd:=⟨fun e=>typeOk P e=true,fun r ps x y=> ∃ rd,E.rnd r=some rd∧cRnd P ps x y=some rd⟩
def heap0:Heap:={next:=0,t:=.leaf,hid:=[],floor:=0,base:=0}
omit [Gd] in
theorem heap0_get (b:Nat):heap0.get b=none:=by
 unfold heap0 Heap.get
 split
 ·rfl
 ·cases b<;>rfl
omit [Gd] in
theorem heap0_t (b:Nat):heap0.t.get b=none:=by
 have:=heap0_get b
 unfold Heap.get at this
 rw [if_neg (by simp [Heap.hidden,heap0])] at this
 exact this
theorem hrel0 (w:World):HRel (fun _=>none) heap0 w:=
 ⟨fun b x h=>(by rw [heap0_get] at h;cases h),fun b _ x _ _ _ h=>(by rw [heap0_get] at h;cases h),fun _ _=>rfl,fun b x h=>(by rw [heap0_t] at h;cases h),⟨Nat.le_refl _,Nat.le_refl _⟩,fun _ _ _ e=>by cases e⟩
theorem run_closed {P:Program} {E:Env} (hE:EnvOk P E) (hpe:PrimsExt E) {n:Nat} {f:FuncId} (hf:f<big) {v:Val} {h':Heap} (e:run E n f [] heap0=some (v,h')) (w:World):
  Calls P f #[] w (fun en w'=> ∃ cv ρ',en=.returned cv∧VRel ρ' v cv∧HRel ρ' h' w'∧w'.os=w.os∧w'.tape=w.tape∧w'.output=w.output∧w.heap.size≤w'.heap.size∧ ∀ c,c<w.heap.size→w'.heap[c]? =w.heap[c]?):=by
 refine (((run_sound hE hpe n f [] heap0 v h' e).1 hf).2 _ w #[] (hrel0 w) .nil).mono ?_
 rintro en w' ⟨cv,ρ',he,p,hv⟩
 exact ⟨cv,ρ',he,hv,p.hrel,p.os,p.tape,p.output,p.size,fun c hc=>p.frame c hc fun b x l hg=>by rw [heap0_get] at hg;cases hg⟩
omit [Gd] in
theorem wf0:(∀ b,heap0.next≤b→heap0.hidden b=false)∧(∀ b,heap0.next≤b→heap0.t.get b=none)∧heap0.floor≤heap0.next:=
 ⟨fun _ _=>rfl,fun b _=>heap0_t b,Nat.le_refl _⟩
theorem law_closed {P:Program} {E:Env} (hE:EnvOk P E) (hpe:PrimsExt E) {n:Nat} {f:FuncId} (hf:f<big) {args:List Val} {cargs:Array Value} (ha:VRels (fun _=>none) args cargs.toList) {h':Heap} (e:run E n f args heap0=some (.bool true,h')) (w:World):
  Calls P f cargs w (fun en w'=>en=.returned (.bool true)∧(∀ c,c<w.heap.size→w'.heap[c]? =w.heap[c]?)∧w'.os=w.os∧w'.output=w.output):=by
 refine (((run_sound hE hpe n f args heap0 _ h' e).1 hf).2 _ w cargs (hrel0 w) ha).mono ?_
 rintro en w' ⟨cv,ρ',he,p,hv⟩
 simp only [VRel] at hv
 subst hv
 exact ⟨he,fun c hc=>p.frame c hc (fun b x l hg=>by rw [heap0_get] at hg;cases hg),p.os,p.output⟩
def wholeP (v:Val):List Val→Heap→Option (Val×Heap):=fun args h=>match args with
 |[]=>some (v,h)
 |_=>none
omit [Gd] in
theorem whole_ext {v:Val} {args:List Val} {h h':Heap} {x:Val} (e:wholeP v args h=some (x,h')):HExt h h':=by
 unfold wholeP at e
 split at e
 ·cases e;exact .refl _
 ·cases e
theorem whole_sound {P:Program} {E:Env} (hE:EnvOk P E) (hpe:PrimsExt E) {n:Nat} {f:FuncId} (hf:f<big) {h1:Heap} (e:run E n f [] heap0=some (.bool true,h1)):(∃ fn,FnOk P f fn)∧ ∀ args h v h',wholeP (.bool true) args h=some (v,h')→
  ∀ ρ w (cargs:Array Value),HRel ρ h w→VRels ρ args cargs.toList→Calls P f cargs w (fun e w'=> ∃ cv ρ',e=.returned cv∧Post ρ h w ρ' h' w'∧VRel ρ' v cv):=by
 refine ⟨?_,?_⟩
 ·obtain ⟨⟨fn,h1,h2,h3⟩,_⟩:=(run_sound hE hpe n f [] heap0 _ h1 e).1 hf
  exact ⟨fn,h1,h2,h3⟩
 ·intro args h v h' ew ρ w cargs hr ha
  unfold wholeP at ew
  split at ew
  ·cases ew
   simp only [VRels] at ha
   obtain rfl:cargs= #[]:=Array.ext' (by simpa using ha)
   refine (run_closed hE hpe hf e w).mono ?_
   rintro en w' ⟨cv,ρ',he,hv,_,h3,h4,h5,h6,h7⟩
   simp only [VRel] at hv
   refine ⟨cv,ρ,he,?_,by simp only [VRel];exact hv⟩
   refine ⟨Ren.le_refl _,⟨?_,hr.inj,hr.top,hr.low,hr.bs,hr.tight⟩,rfl,rfl,rfl,Nat.le_refl _,fun _ _ h=>h,h3,h4,h5,h6,fun c hc _=>h7 c hc,fun b l h1 h2=>(by rw [h1] at h2;cases h2),fun b l h1 h2=>(by rw [h1] at h2;cases h2)⟩
   intro b x eb
   obtain ⟨l,h1,h2⟩:=hr.blk b x eb
   exact ⟨l,h1,h2.mono (Ren.le_refl _) (h7 _ h2.lt)⟩
  ·cases ew
end Go.V
end
