/-
  Parts of the proof, from: Trees with pairs: of tuples.
-/
import Derived.Test.YtacccjmlocoahaaGreatZ5

set_option linter.unusedVariables false
set_option linter.unusedSimpArgs false
set_option linter.unusedSectionVars false
section
set_option maxRecDepth 100000
set_option maxHeartbeats 4000000
namespace Go.V
theorem balanceC (p:(Tup×Unit)) (l r:T (Tup×Unit)) {N:Nat} (hN:N≤100000000000000000) (hl:l.lim N) (hr:r.lim N):PC EN 199 [.agg (cC p),l.v cC,r.v cC] false [(T.balance p l r).v cC]:=by
 refine PC.fw ?_
 have hM:4*N+3≤1000000000000000000:=by omega
 have bl:=T.lim_sz hl
 have br:=T.lim_sz hr
 have w0:IntKind.i64.wrap ((l.dp:Int) - (r.dp:Int))=(l.dp:Int) - (r.dp:Int):=i64_small (by omega) (by omega)
 rcases Classical.propComplete ((l.dp:Int) - (r.dp:Int)>1) with h1|h1
 ·cases l with
  |nil=>have:=of_eq_true h1;simp only [T.dp_nil] at this;omega
  |node lp ll lr n d=>
   simp only [T.dp_node,T.sz_node] at h1 w0 bl
   have b1:=T.lim_sz hl.2.2.1
   have b2:=T.lim_sz hl.2.2.2
   rcases Classical.propComplete ((ll.dp:Int)≥(lr.dp:Int)) with h2|h2
   ·rw [T.balance_ll h1 h2]
    clear hl hr
    (refine gcC (And.intro deepC (And.intro deepNC (fun z1 z2 z3 z4 z5=>joinC z1 z2 z3 hM z4 z5))) ?_;try exact True.intro)
    (refine gfC ?_;try exact True.intro)
   ·cases lr with
    |nil=>have:=of_eq_false h2;simp only [T.dp_nil] at this;omega
    |node m ml mr n2 d2=>
     simp only [T.dp_node,T.sz_node] at h2 b2
     have b3:=T.lim_sz hl.2.2.2.2.2.1
     have b4:=T.lim_sz hl.2.2.2.2.2.2
     rw [T.balance_lr h1 h2]
     clear hl hr
     (refine gcC (And.intro deepC (And.intro deepNC (fun z1 z2 z3 z4 z5=>joinC z1 z2 z3 hM z4 z5))) ?_;try exact True.intro)
     (refine gfC ?_;try exact True.intro)
 ·rcases Classical.propComplete ((l.dp:Int) - (r.dp:Int)< -1) with h3|h3
  ·cases r with
   |nil=>have:=of_eq_true h3;simp only [T.dp_nil] at this;omega
   |node rp rl rr n d=>
    simp only [T.dp_node,T.sz_node] at h1 h3 w0 br
    have b1:=T.lim_sz hr.2.2.1
    have b2:=T.lim_sz hr.2.2.2
    rcases Classical.propComplete ((rr.dp:Int)≥(rl.dp:Int)) with h2|h2
    ·rw [T.balance_rr h1 h3 h2]
     clear hl hr
     (refine gcC (And.intro deepC (And.intro deepNC (fun z1 z2 z3 z4 z5=>joinC z1 z2 z3 hM z4 z5))) ?_;try exact True.intro)
     (refine gfC ?_;try exact True.intro)
    ·cases rl with
     |nil=>have:=of_eq_false h2;simp only [T.dp_nil] at this;omega
     |node m ml mr n2 d2=>
      simp only [T.dp_node,T.sz_node] at h2 b1
      have b3:=T.lim_sz hr.2.2.1.2.2.1
      have b4:=T.lim_sz hr.2.2.1.2.2.2
      rw [T.balance_rl h1 h3 h2]
      clear hl hr
      (refine gcC (And.intro deepC (And.intro deepNC (fun z1 z2 z3 z4 z5=>joinC z1 z2 z3 hM z4 z5))) ?_;try exact True.intro)
      (refine gfC ?_;try exact True.intro)
  ·rw [T.balance_mid h1 h3]
   clear hl hr
   (refine gcC (And.intro deepC (And.intro deepNC (fun z1 z2 z3 z4 z5=>joinC z1 z2 z3 hM z4 z5))) ?_;try exact True.intro)
   (refine gfC ?_;try exact True.intro)
end Go.V
end
