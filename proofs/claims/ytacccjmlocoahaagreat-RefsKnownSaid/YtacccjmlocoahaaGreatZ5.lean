/-
  Parts of the proof, from: Layer 25: names, comparisons.
-/
import Derived.Test.YtacccjmlocoahaaGreatZ4

set_option linter.unusedVariables false
set_option linter.unusedSimpArgs false
set_option linter.unusedSectionVars false
section
set_option maxRecDepth 100000
namespace Go.V
abbrev strs (l:List Str):List Val:=l.map .str
theorem cmpstr_ok (a b:Str):PC EN 165 [.str a,.str b] true [.int .i64 (cmpBytes a b)]:=by
 refine PC.fw ?_
 (refine gaC ?_;try exact True.intro)
 (refine gfC ?_;try exact True.intro)
theorem strcmp_ok (a b:Str):PC EN 120 [.str a,.str b] true [.int .i64 (cmpBytes a b)]:=by
 refine PC.fw ?_
 (refine gcC cmpstr_ok ?_;try exact True.intro)
 (refine gfC ?_;try exact True.intro)
def orI:List Int→Int
 |[]=>0
 |x::r=>if x=0 then orI r else x
abbrev intL (l:List Int):List Val:=l.map (.int .i64)
theorem orI_drop {l:List Int} {i:Nat} (h:i<l.length):orI (l.drop i)=if l[i]=0 then orI (l.drop (i+1)) else l[i]:=by
 rw [List.drop_eq_getElem_cons h,orI]
theorem or_ok (l:List Int) (x:Nat) (hl:l.length<4611686018427387904):PC EN 65 [.list (intL l) l.length x] true [.int .i64 (orI l)]:=by
 refine PC.fw ?_
 (refine gaC ?_;try exact True.intro)
 refine GE.forR msP (fun _:Unit=>[(6,.list (intL l) l.length x),(3,.int .i64 0)]) (fun _=>hp 0 0 [] []) (fun i _=>orI (l.drop i)=orI l) hl ?_ ?_ 0 () rfl (Nat.zero_le _) (by (refine gwC ?_;try exact True.intro)) (by simp) (by simp)
 ·intro i _ hi he
  have hd:=orI_drop hi
  have hl2:(i+1≤(intL l).length)=True:=by simp;omega
  have h0:((0:Int)≤i)=True:=by simp
  have hlt:((i:Int)<(l.length:Int))=True:=by simp;omega
  have hg:(intL l)[i]? =some (.int .i64 l[i]):=by simp [hi]
  rw [hd] at he
  by_cases hz:l[i]=0
  ·rw [if_pos hz] at he
   have hb:(l[i]==0)=true:=by simp [hz]
   (refine gaC ?_;try exact True.intro)
   exact ⟨(),he,by (refine gwC ?_;try exact True.intro)⟩
  ·rw [if_neg hz] at he
   have hb:(l[i]==0)=false:=by simp [hz]
   replace he:=he.symm
   (refine gaC ?_;try exact True.intro)
   (refine gfC ?_;try exact True.intro)
 ·intro _ he
  rw [List.drop_length] at he
  replace he:orI l=0:=he.symm
  (refine gaC ?_;try exact True.intro)
  (refine gfC ?_;try exact True.intro)
end Go.V
end
section
set_option maxRecDepth 100000
set_option maxHeartbeats 4000000
namespace Go.V
def isL (c:UInt8):Bool:=decide (97≤(c.toNat:Int)∧(c.toNat:Int)≤122)||decide (48≤(c.toNat:Int)∧(c.toNat:Int)≤57)
def nameErr (s:Str):Int:=if 1≤s.length∧s.length≤16∧s.all isL=true then 0 else 6
theorem check_ok (s:Str):PC EN 141 [.str s] true [.int .i64 (nameErr s)]:=by
 refine PC.fw ?_
 rcases Classical.propComplete ((s.length:Int)<1) with h1|h1
 ·have hn:nameErr s=6:=by
   unfold nameErr;rw [if_neg];have:=of_eq_true h1;omega
  (refine gaC ?_;try exact True.intro)
  (refine gfC ?_;try exact True.intro)
 rcases Classical.propComplete ((s.length:Int)>16) with h2|h2
 ·have hn:nameErr s=6:=by
   unfold nameErr;rw [if_neg];have:=of_eq_true h2;omega
  (refine gaC ?_;try exact True.intro)
  (refine gfC ?_;try exact True.intro)
 have h1':=of_eq_false h1
 have h2':=of_eq_false h2
 (refine gaC ?_;try exact True.intro)
 refine GE.forR msP (fun _:Unit=>[(0,.str s)]) (fun _=>hp 0 0 [] []) (fun i _=>s.all isL=(s.drop i).all isL) (N:=s.length) (by omega) ?_ ?_ 0 () rfl (Nat.zero_le _) (by (refine gwC ?_;try exact True.intro)) (by simp) (by simp)
 ·intro i _ hi he
  have h0:((0:Int)≤i)=True:=by simp
  have hg:s[i]? =some s[i]:=by simp [hi]
  rw [List.drop_eq_getElem_cons hi,List.all_cons] at he
  have bad:isL s[i]=false→nameErr s=6:=by
   intro h
   unfold nameErr;rw [if_neg]
   rw [he,h];simp
  have good:isL s[i]=true→s.all isL=(s.drop (i+1)).all isL:=by
   intro h;rw [he,h,Bool.true_and]
  clear he
  generalize hc:s[i]=c at*
  simp only [isL] at bad good
  rcases Classical.propComplete ((c.toNat:Int)<97) with a1|a1
  ·rcases Classical.propComplete ((c.toNat:Int)<48) with a3|a3
   ·have b3:=of_eq_true a3
    replace bad:=bad (by simp;omega)
    clear good b3
    (refine gaC ?_;try exact True.intro)
    (refine gfC ?_;try exact True.intro)
   ·rcases Classical.propComplete ((c.toNat:Int)>57) with a4|a4
    ·have b1:=of_eq_true a1
     have b4:=of_eq_true a4
     replace bad:=bad (by simp;omega)
     clear good b1 b4
     (refine gaC ?_;try exact True.intro)
     (refine gfC ?_;try exact True.intro)
    ·have b3:=of_eq_false a3
     have b4:=of_eq_false a4
     replace good:=good (by simp;omega)
     clear bad b3 b4
     (refine gaC ?_;try exact True.intro)
     first|exact ⟨(),good,by (refine gwC ?_;try exact True.intro)⟩|exact ⟨(),trivial,by (refine gwC ?_;try exact True.intro)⟩
  ·have b1:=of_eq_false a1
   rcases Classical.propComplete ((c.toNat:Int)>122) with a2|a2
   ·have b2:=of_eq_true a2
    have a3:((c.toNat:Int)<48)=False:=by simp;omega
    have a4:((c.toNat:Int)>57)=True:=by simp;omega
    replace bad:=bad (by simp;omega)
    clear good b1 b2
    (refine gaC ?_;try exact True.intro)
    (refine gfC ?_;try exact True.intro)
   ·have b2:=of_eq_false a2
    replace good:=good (by simp;omega)
    clear bad b1 b2
    (refine gaC ?_;try exact True.intro)
    first|exact ⟨(),good,by (refine gwC ?_;try exact True.intro)⟩|exact ⟨(),trivial,by (refine gwC ?_;try exact True.intro)⟩
 ·intro _ he
  rw [List.drop_length] at he
  have hn:nameErr s=0:=by
   unfold nameErr;rw [if_pos];exact ⟨by omega,by omega,he⟩
  (refine gaC ?_;try exact True.intro)
  (refine gfC ?_;try exact True.intro)
def allErr:List Str→Int
 |[]=>0
 |s::r=>if nameErr s=0 then allErr r else nameErr s
theorem allErr_drop {l:List Str} {i:Nat} (h:i<l.length):allErr (l.drop i)=if nameErr l[i]=0 then allErr (l.drop (i+1)) else nameErr l[i]:=by
 rw [List.drop_eq_getElem_cons h,allErr]
theorem all_ok (l:List Str) (x:Nat) (hl:l.length<4611686018427387904):PC EN 89 [.list (strs l) l.length x] true [.int .i64 (allErr l)]:=by
 refine PC.fw ?_
 (refine gaC ?_;try exact True.intro)
 refine GE.forR msP (fun _:Unit=>[(6,.list (strs l) l.length x)]) (fun _=>hp 0 0 [] []) (fun i _=>allErr (l.drop i)=allErr l) hl ?_ ?_ 0 () rfl (Nat.zero_le _) (by (refine gwC ?_;try exact True.intro)) (by simp) (by simp)
 ·intro i _ hi he
  have hd:=allErr_drop hi
  have hl2:(i+1≤(strs l).length)=True:=by simp;omega
  have h0:((0:Int)≤i)=True:=by simp
  have hlt:((i:Int)<(l.length:Int))=True:=by simp;omega
  have hg:(strs l)[i]? =some (.str l[i]):=by simp [hi]
  rw [hd] at he
  clear hd
  by_cases hz:nameErr l[i]=0
  ·rw [if_pos hz] at he
   have hb:(nameErr l[i]==0)=true:=by simp [hz]
   clear hz
   (refine gcC check_ok ?_;try exact True.intro)
   exact ⟨(),he,by (refine gwC ?_;try exact True.intro)⟩
  ·rw [if_neg hz] at he
   have hb:(nameErr l[i]==0)=false:=by simp [hz]
   replace he:=he.symm
   (refine gcC check_ok ?_;try exact True.intro)
   (refine gfC ?_;try exact True.intro)
 ·intro _ he
  rw [List.drop_length] at he
  replace he:allErr l=0:=he.symm
  (refine gaC ?_;try exact True.intro)
  (refine gfC ?_;try exact True.intro)
def goalErr (g:Goal):Int:=allErr [g.obj.space,g.obj.id,g.rel]
def objErr (x:Obj):Int:=allErr [x.space,x.id]
def subErr (g:Goal):Int:=if g.rel=[] then objErr g.obj else goalErr g
theorem goalErr_ok (a b c:Str):PC EN 45 [.agg [.str a,.str b,.str c]] true [.int .i64 (goalErr ⟨⟨a,b⟩,c⟩)]:=by
 refine PC.fw ?_
 (refine gcC (fun z1 z2 z3=>all_ok [z1,z2,z3] 0 (Nat.le_of_ble_eq_true rfl)) ?_;try exact True.intro)
 (refine gfC ?_;try exact True.intro)
 rfl
theorem objErr_ok (a b:Str):PC EN 166 [.agg [.str a,.str b]] true [.int .i64 (objErr ⟨a,b⟩)]:=by
 refine PC.fw ?_
 (refine gcC (fun z1 z2=>all_ok [z1,z2] 0 (Nat.le_of_ble_eq_true rfl)) ?_;try exact True.intro)
 (refine gfC ?_;try exact True.intro)
 rfl
theorem subErr_ok (a b c:Str):PC EN 121 [.agg [.str a,.str b,.str c]] true [.int .i64 (subErr ⟨⟨a,b⟩,c⟩)]:=by
 refine PC.fw ?_
 unfold subErr
 by_cases hc:c=[]
 ·subst hc
  (refine gcC objErr_ok ?_;try exact True.intro)
  (refine gfC ?_;try exact True.intro)
 ·have hb:(c==[])=false:=by simpa using hc
  rw [if_neg hc]
  (refine gcC goalErr_ok ?_;try exact True.intro)
  (refine gfC ?_;try exact True.intro)
def cmpObj (a b:Obj):Int:=orI [cmpBytes a.space b.space,cmpBytes a.id b.id]
def cmpGoal (a b:Goal):Int:=orI [cmpObj a.obj b.obj,cmpBytes a.rel b.rel]
theorem cmpObj_ok (a b c d:Str):PC EN 99 [.agg [.str a,.str b],.agg [.str c,.str d]] true [.int .i64 (cmpObj ⟨a,b⟩ ⟨c,d⟩)]:=by
 refine PC.fw ?_
 (refine gcC (And.intro strcmp_ok (fun z1 z2=>or_ok [z1,z2] 0 (Nat.le_of_ble_eq_true rfl))) ?_;try exact True.intro)
 (refine gfC ?_;try exact True.intro)
 rfl
theorem cmpGoal_ok (a b e c d f:Str):PC EN 66 [.agg [.str a,.str b,.str e],.agg [.str c,.str d,.str f]] true [.int .i64 (cmpGoal ⟨⟨a,b⟩,e⟩ ⟨⟨c,d⟩,f⟩)]:=by
 refine PC.fw ?_
 (refine gcC (And.intro strcmp_ok (And.intro cmpObj_ok (fun z1 z2=>or_ok [z1,z2] 0 (Nat.le_of_ble_eq_true rfl)))) ?_;try exact True.intro)
 (refine gfC ?_;try exact True.intro)
 rfl
theorem cmpSub_ok (a b e c d f:Str):PC EN 67 [.agg [.str a,.str b,.str e],.agg [.str c,.str d,.str f]] true [.int .i64 (cmpGoal ⟨⟨a,b⟩,e⟩ ⟨⟨c,d⟩,f⟩)]:=by
 refine PC.fw ?_
 (refine gcC cmpGoal_ok ?_;try exact True.intro)
 (refine gfC ?_;try exact True.intro)
end Go.V
end
section
set_option maxRecDepth 100000
set_option maxHeartbeats 4000000
namespace Go.V
def cmpTup (a b:Tup):Int:=orI [cmpGoal a.goal b.goal,cmpGoal a.sub b.sub]
def tupErr (a:Tup):Int:=if goalErr a.goal=0 then subErr a.sub else goalErr a.goal
theorem cmpTup_ok (a1 a2 a3 a4 a5 a6 b1 b2 b3 b4 b5 b6:Str):PC EN 34 [.agg [.str a1,.str a2,.str a3,.str a4,.str a5,.str a6],.agg [.str b1,.str b2,.str b3,.str b4,.str b5,.str b6]] true [.int .i64 (cmpTup ⟨⟨⟨a1,a2⟩,a3⟩,⟨⟨a4,a5⟩,a6⟩⟩ ⟨⟨⟨b1,b2⟩,b3⟩,⟨⟨b4,b5⟩,b6⟩⟩)]:=by
 refine PC.fw ?_
 (refine gcC (And.intro cmpGoal_ok (And.intro cmpSub_ok (fun z1 z2=>or_ok [z1,z2] 0 (Nat.le_of_ble_eq_true rfl)))) ?_;try exact True.intro)
 (refine gfC ?_;try exact True.intro)
 rfl
theorem tupErr_ok (a1 a2 a3 a4 a5 a6:Str):PC EN 68 [.agg [.str a1,.str a2,.str a3,.str a4,.str a5,.str a6]] true [.int .i64 (tupErr ⟨⟨⟨a1,a2⟩,a3⟩,⟨⟨a4,a5⟩,a6⟩⟩)]:=by
 refine PC.fw ?_
 unfold tupErr
 by_cases h:goalErr ⟨⟨a1,a2⟩,a3⟩=0
 ·have hb:(goalErr ⟨⟨a1,a2⟩,a3⟩==0)=true:=by simp [h]
  rw [if_pos h]
  clear h
  (refine gcC (And.intro goalErr_ok subErr_ok) ?_;try exact True.intro)
  (refine gfC ?_;try exact True.intro)
 ·have hb:(goalErr ⟨⟨a1,a2⟩,a3⟩==0)=false:=by simp [h]
  rw [if_neg h]
  clear h
  (refine gcC goalErr_ok ?_;try exact True.intro)
  (refine gfC ?_;try exact True.intro)
end Go.V
end
section
set_option maxRecDepth 100000
set_option maxHeartbeats 4000000
namespace Go.V
theorem sizeC (t:T (Tup×Unit)):PC EN 167 [t.v cC] true [.int .i64 t.sz]:=by
 refine PC.fw ?_
 cases t with
 |nil=>(refine gaC ?_;try exact True.intro);(refine gfC ?_;try exact True.intro)
 |node p l r n d=>(refine gaC ?_;try exact True.intro);(refine gfC ?_;try exact True.intro)
theorem deepC (t:T (Tup×Unit)):PC EN 227 [t.v cC] true [.int .i64 t.dp]:=by
 refine PC.fw ?_
 cases t with
 |nil=>(refine gaC ?_;try exact True.intro);(refine gfC ?_;try exact True.intro)
 |node p l r n d=>(refine gaC ?_;try exact True.intro);(refine gfC ?_;try exact True.intro)
theorem deepNC (a0 a1 a2 a3 a4 a5 x y:Val) (n d:Int):PC EN 227 [.ref [a0,a1,a2,a3,a4,a5,x,y,.int .i64 n,.int .i64 d] 0] true [.int .i64 d]:=by
 refine PC.fw ?_
 (refine gaC ?_;try exact True.intro);(refine gfC ?_;try exact True.intro)
theorem joinC (p:(Tup×Unit)) (l r:T (Tup×Unit)) {N:Nat} (hN:N≤1000000000000000000) (hl:l.sz≤N∧l.dp≤N) (hr:r.sz≤N∧r.dp≤N):PC EN 201 [.agg (cC p),l.v cC,r.v cC] false [(T.join p l r).v cC]:=by
 refine PC.fw ?_
 unfold T.join
 obtain ⟨h1,h2⟩:=hl
 obtain ⟨h3,h4⟩:=hr
 have w1:IntKind.i64.wrap ((l.sz:Int)+1)=((l.sz+1:Nat):Int):=i64_small (by omega) (by omega)
 have w2:IntKind.i64.wrap (((l.sz+1:Nat):Int)+(r.sz:Int))=((l.sz+1+r.sz:Nat):Int):=i64_small (by omega) (by omega)
 have w3:(if (r.dp:Int)>(l.dp:Int) then (r.dp:Int) else (l.dp:Int))=((max l.dp r.dp:Nat):Int):=max_int _ _
 have w4:IntKind.i64.wrap (1+((max l.dp r.dp:Nat):Int))=((1+max l.dp r.dp:Nat):Int):=i64_small (by omega) (by omega)
 clear h1 h2 h3 h4 hN
 (refine gcC (And.intro sizeC deepC) ?_;try exact True.intro)
 (refine gfC ?_;try exact True.intro)
end Go.V
end
