/-
  Parts of the proof, from: YtacccjmlocoahaaGreatZm3v
-/
import Derived.KernelRfl
import Derived.Test.YtacccjmlocoahaaGreatZ11

set_option linter.unusedVariables false
section
set_option maxRecDepth 100000
namespace Go.V
noncomputable section
def f81:FT:=fun p s k=>hd s fun a0 s0=>
 nl s0<|
 kbx p 1 a0 fun v1 p2=>
 kla p2 1 v1 fun v3=>
 cn f127 p2 [v3] fun v4 p5=>
 kex v4 0 fun v6=>
 kex v4 1 fun v7=>
 kal p5 q101 fun v8 p9=>
 kst p9 2 v8 v6 fun p10=>
 keq false .i v7 q32 fun v11=>
 jn 1 (fun j12 => kif v11
 (kla p10 2 v8 fun v13=>
 cn f128 p10 [v13] fun v14 p15=>
 kex v14 0 fun v16=>
 kex v14 1 fun v17=>
 j12 v17 p15)
 (j12 v7 p10)) fun v18 p19=>
 k [v18] p19
theorem o81:FO EN 81 f81:=fe 1 (tc (cn_ok o127) (tc (cn_ok o128) tnil)) [some [4]] (by kernel_rfl) fun p s k=>by kernel_rfl
def f82:FT:=fun p s k=>hd s fun a0 s0=>
 nl s0<|
 kbx p 1 a0 fun v1 p2=>
 ksw mth p2 (.mkmap) fun v3 p4=>
 kfa 0 v1 fun v5=>
 kld p4 v5 fun v6=>
 kln v6 fun v7=>
 jn 0 (fun j8=>
 lp 1 fuel (fun r9 v10 p11=>
 klt v10 v7 fun v12=>
 kif v12
 (jn 0 (fun j13=>
 kia 2 v6 v10 fun v14=>
 kla p11 2 v14 fun v15=>
 kal p11 q21 fun v16 p17=>
 kst p17 2 v16 v15 fun p18=>
 kfa 1 v16 fun v19=>
 kld p18 v19 fun v20=>
 kln v20 fun v21=>
 jn 0 (fun j22=>
 lp 1 fuel (fun r23 v24 p25=>
 klt v24 v21 fun v26=>
 kif v26
 (kia 6 v20 v24 fun v27=>
 kla p25 6 v27 fun v28=>
 kal p25 q16 fun v29 p30=>
 kst p30 6 v29 v28 fun p31=>
 kfa 0 v16 fun v32=>
 kld (prt [] p31) v32 fun v33=>
 kfa 0 v29 fun v34=>
 kld (prt [] p31) v34 fun v35=>
 kbd q1 [(0,1,v33),(1,1,v35)] fun v36=>
 kbs p31 0 [] [] fun v37 p38=>
 kfa 1 v29 fun v39=>
 kld (prt [(p31.next,p38.next)] p38) v39 fun v40=>
 kpa p38 [] [v32,v34] 2 32 v37 v40 fun p42 v41 p43=>
 ksw mth p43 (.mapUpdate ⟨true,[(0,.s),(1,.s)]⟩ (.c v3) (.c v36) (.c v41)) fun v44 p45=>
 kad v24 q44 fun v46=>
 r23 v46 p45)
 (j22 p25)) q32 p18) fun p47=>
 j13 p47) fun p48=>
 kad v10 q44 fun v49=>
 r9 v49 p48)
 (j8 p11)) q32 p4) fun p50=>
 k [v3] p50
theorem o82:FO EN 82 f82:=fe 1 tnil [some [],some [12],none,some [],some [],some [19],none,none] (by kernel_rfl) fun p s k=>by kernel_rfl
def f83:FT:=fun p s k=>hd s fun a0 s0=>
 hd s0 fun a1 s1=>
 nl s1<|
 kbx p 6 a1 fun v2 p3=>
 kla p3 6 v2 fun v4=>
 cn f68 p3 [v4] fun v5 p6=>
 keq true .i v5 q32 fun v7=>
 kif v7
 (k [q55] p6)
 (kfa 0 v2 fun v8=>
 kfa 0 v8 fun v9=>
 kfa 0 v9 fun v10=>
 kld p6 v10 fun v11=>
 kfa 0 v2 fun v12=>
 kfa 2 v12 fun v13=>
 kld p6 v13 fun v14=>
 kbd q1 [(0,1,v11),(1,1,v14)] fun v15=>
 ksw mth p6 (.lookup ⟨true,[(0,.s),(1,.s)]⟩ .nils true (.c a0) (.c v15)) fun v16 p17=>
 kex v16 0 fun v18=>
 kex v16 1 fun v19=>
 knt v19 fun v20=>
 kif v20
 (k [q55] p17)
 (kfa 3 v2 fun v21=>
 kfa 0 v21 fun v22=>
 kfa 0 v22 fun v23=>
 kld p17 v23 fun v24=>
 kfa 3 v2 fun v25=>
 kfa 2 v25 fun v26=>
 kld p17 v26 fun v27=>
 kbd q1 [(0,1,v24),(1,1,v27)] fun v28=>
 cn f138 p17 [v18,v28] fun v29 p30=>
 knt v29 fun v31=>
 kif v31
 (k [q94] p30)
 (k [q32] p30)))
theorem o83:FO EN 83 f83:=fe 2 (tc (cn_ok o68) (tc (cn_ok o138) tnil)) [none,none,none,none] (by kernel_rfl) fun p s k=>by kernel_rfl
def f38:FT:=fun p s k=>hd s fun a0 s0=>
 hd s0 fun a1 s1=>
 nl s1<|
 kbx p 1 a0 fun v2 p3=>
 kla p3 1 v2 fun v4=>
 cn f81 p3 [v4] fun v5 p6=>
 keq true .i v5 q32 fun v7=>
 kif v7
 (k [q32,v5] p6)
 (kla p6 1 v2 fun v8=>
 cn f82 p6 [v8] fun v9 p10=>
 kln a1 fun v11=>
 jn 0 (fun j12=>
 lp 1 fuel (fun r13 v14 p15=>
 klt v14 v11 fun v16=>
 kif v16
 (kia 6 a1 v14 fun v17=>
 kla p15 6 v17 fun v18=>
 kal p15 q27 fun v19 p20=>
 kst p20 6 v19 v18 fun p21=>
 kla p21 6 v19 fun v22=>
 cn f83 p21 [v9,v22] fun v23 p24=>
 keq true .i v23 q32 fun v25=>
 kif v25
 (k [v14,v23] p24)
 (kad v14 q44 fun v26=>
 r13 v26 p24))
 (j12 p15)) q32 p10) fun p27=>
 kln a1 fun v28=>
 k [v28,q32] p27)
theorem o38:FO EN 38 f38:=fe 2 (tc (cn_ok o81) (tc (cn_ok o82) (tc (cn_ok o83) tnil))) [none,some [],some [20],none,none,none] (by kernel_rfl) fun p s k=>by kernel_rfl
end
end Go.V
end
