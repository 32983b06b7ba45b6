/-
  Parts of the proof, from: YtacccjmlocoahaaGreatZm4v
-/
import Derived.KernelRfl
import Derived.Test.YtacccjmlocoahaaGreatZ15

set_option linter.unusedVariables false
section
set_option maxRecDepth 100000
namespace Go.V
noncomputable section
def f15:FT:=fun p s k=>hd s fun a0 s0=>
 hd s0 fun a1 s1=>
 nl s1<|
 kbx p 1 a0 fun v2 p3=>
 kal p3 q113 fun v4 p5=>
 kla p5 1 v2 fun v6=>
 cn f41 p5 [v6] fun v7 p8=>
 cn f40 p8 [v7] fun v9 p10=>
 kex v9 0 fun v11=>
 kex v9 1 fun v12=>
 kla (prt [] p10) 1 v2 fun v13=>
 kla (prt [] p10) 1 v2 fun v14=>
 cn f42 (prt [] p10) [v14] fun v15 p16=>
 unpK p10 p16 fun p17=>
 kla (prt [(p10.next,p16.next)] p17) 1 v2 fun v18=>
 m43 (prt [] p17) [v18,a1] fun v19 p20=>
 unpK p17 p20 fun p21=>
 kbd q113 [(0,1,v13),(1,1,a1),(2,1,v15),(3,1,v11),(4,1,v19)] fun v22=>
 kst p21 5 v4 v22 fun p23=>
 kra p23 5 v4 fun v24=>
 k [v24] p23
theorem o15:FO EN 15 f15:=fe 2 (tc (cn_ok o41) (tc (cn_ok o40) (tc (cn_ok o42) (tc m43_ok tnil)))) [] (by kernel_rfl) fun p s k=>by kernel_rfl
def f5:FT:=fun p s k=>hd s fun a0 s0=>
 hd s0 fun a1 s1=>
 nl s1<|
 kbx p 1 a0 fun v2 p3=>
 kal p3 q113 fun v4 p5=>
 kal p5 q112 fun v6 p7=>
 cn f12 p7 [a1] fun v8 p9=>
 c13 p9 [v8] fun v10 p11=>
 kex v10 0 fun v12=>
 kex v10 1 fun v13=>
 kal p11 q64 fun v14 p15=>
 kst p15 4 v14 v12 fun p16=>
 kla p16 1 v2 fun v17=>
 kla p16 4 v14 fun v18=>
 ci f14 p16 [v17,v18] fun v19 p20=>
 kex v19 0 fun v21=>
 kex v19 1 fun v22=>
 kal p20 q112 fun v23 p24=>
 kst p24 5 v23 v21 fun p25=>
 kla (prt [] p25) 1 v2 fun v26=>
 ci f15 (prt [] p25) [v26,v8] fun v27 p28=>
 unpK p25 p28 fun p29=>
 kla (prt [(p25.next,p28.next)] p29) 5 v23 fun v30=>
 keq false .i v13 q32 fun v31=>
 jn 2 (fun j32=>gdK v31 true (keq false .i v22 q32 fun v33=>
 j32 v22 v33 p29) (j32 .undef .undef p29)) fun v34 v35 _=>
 kpk v31 v35 q43 fun v37=>
 kps p29 [] [v23] 5 v4 v27 fun b38 p39=>
 kst p39 5 v6 v30 fun p40=>
 kra p40 5 v4 fun v41=>
 kra p40 5 v6 fun v42=>
 k [v41,v42,v37] p40
theorem o5:FO EN 5 f5:=fe 2 (tc (cn_ok o12) (tc c13_ok (tc (ci_ok o14) (tc (ci_ok o15) tnil)))) [] (by kernel_rfl) fun p s k=>by kernel_rfl
def f142:FT:=fun p s k=>hd s fun a0 s0=>
 nl s0<|
 kln a0 fun v1=>
 kln a0 fun v2=>
 ksl 2 a0 none (some v1) (some v2) fun v3=>
 k [v3] p
theorem o142:FO EN 142 f142:=fe 1 tnil [] (by kernel_rfl) fun p s k=>by kernel_rfl
def f144:FT:=fun p s k=>hd s fun a0 s0=>
 nl s0<|
 ken false .s a0 .nils fun v1=>
 kif v1
 (k [.nils] p)
 (kbs p 0 [] [] fun v2 p3=>
 kap p3 6 96 v2 a0 fun v4 p5=>
 k [v4] p5)
theorem o144:FO EN 144 f144:=fe 1 tnil [none] (by kernel_rfl) fun p s k=>by kernel_rfl
def f143:FT:=fun p s k=>hd s fun a0 s0=>
 nl s0<|
 kln a0 fun v1=>
 kln a0 fun v2=>
 ksl 6 a0 none (some v1) (some v2) fun v3=>
 k [v3] p
theorem o143:FO EN 143 f143:=fe 1 tnil [] (by kernel_rfl) fun p s k=>by kernel_rfl
def f146:FT:=fun p s k=>hd s fun a0 s0=>
 nl s0<|
 ken false .s a0 .nils fun v1=>
 kif v1
 (k [.nils] p)
 (kbs p 0 [] [] fun v2 p3=>
 kap p3 1 16 v2 a0 fun v4 p5=>
 k [v4] p5)
theorem o146:FO EN 146 f146:=fe 1 tnil [none] (by kernel_rfl) fun p s k=>by kernel_rfl
def f148:FT:=fun p s k=>hd s fun a0 s0=>
 nl s0<|
 ken false .s a0 .nils fun v1=>
 kif v1
 (k [.nils] p)
 (kbs p 0 [] [] fun v2 p3=>
 kap p3 1 8 v2 a0 fun v4 p5=>
 k [v4] p5)
theorem o148:FO EN 148 f148:=fe 1 tnil [none] (by kernel_rfl) fun p s k=>by kernel_rfl
def f90:FT:=fun p s k=>hd s fun a0 s0=>
 nl s0<|
 kbx p 6 a0 fun v1 p2=>
 kal p2 q111 fun v3 p4=>
 kfa 4 v1 fun v5=>
 kld p4 v5 fun v6=>
 cn f77 p4 [v6] fun v7 p8=>
 ci f142 p8 [v7] fun v9 p10=>
 kfa 4 v1 fun v11=>
 kst p10 1 v11 v9 fun p12=>
 kfa 5 v1 fun v13=>
 kld p12 v13 fun v14=>
 cn f144 p12 [v14] fun v15 p16=>
 ci f143 p16 [v15] fun v17 p18=>
 kfa 5 v1 fun v19=>
 kst p18 1 v19 v17 fun p20=>
 kfa 5 v1 fun v21=>
 kld p20 v21 fun v22=>
 kln v22 fun v23=>
 jn 0 (fun j24=>
 lp 1 fuel (fun r25 v26 p27=>
 klt v26 v23 fun v28=>
 kif v28
 (kfa 5 v1 fun v29=>
 kld p27 v29 fun v30=>
 kia 6 v30 v26 fun v31=>
 knc mth v31 fun v32=>
 kfa 3 v32 fun v33=>
 kld (prt [] p27) v33 fun v34=>
 cn f146 (prt [] p27) [v34] fun v35 p36=>
 unpK p27 p36 fun p37=>
 ci f145 (prt [] p37) [v35] fun v38 p39=>
 unpK p37 p39 fun p40=>
 knc mth v31 fun v41=>
 kfa 4 v41 fun v42=>
 kld (prt [(p27.next,p36.next),(p37.next,p39.next)] p40) v42 fun v43=>
 cn f148 p40 [v43] fun v44 p45=>
 ci f147 p45 [v44] fun v46 p47=>
 knc mth v31 fun v48=>
 kfa 3 v48 fun v49=>
 kst p47 1 v49 v38 fun p50=>
 knc mth v31 fun v51=>
 kfa 4 v51 fun v52=>
 kst p50 1 v52 v46 fun p53=>
 kad v26 q44 fun v54=>
 r25 v54 p53)
 (j24 p27)) q32 p20) fun p55=>
 kla p55 6 v1 fun v56=>
 kst p55 6 v3 v56 fun p57=>
 kra p57 6 v3 fun v58=>
 k [v58] p57
theorem o90:FO EN 90 f90:=fe 1 (tc (cn_ok o77) (tc (ci_ok o142) (tc (cn_ok o144) (tc (ci_ok o143) (tc (cn_ok o146) (tc (ci_ok o145) (tc (cn_ok o148) (tc (ci_ok o147) tnil)))))))) [some [],some [18],none,none] (by kernel_rfl) fun p s k=>by kernel_rfl
def f46:FT:=fun p s k=>hd s fun a0 s0=>
 hd s0 fun a1 s1=>
 hd s1 fun a2 s2=>
 nl s2<|
 kal p q111 fun v3 p4=>
 ken false .p a0 .nilp fun v5=>
 jn 5 (fun j6=>gdK v5 false (knc mth a0 fun v7=>
 kfa 0 v7 fun v8=>
 kld p4 v8 fun v9=>
 knt v9 fun v10=>
 j6 a0 v7 v8 v9 v10 p4) (j6 .undef .undef .undef .undef .undef p4)) fun v11 v12 v13 v14 v15 p16=>
 kpk v5 q53 v15 fun v17=>
 kif v17
 (kbd q111 [] fun v18=>
 kst p16 6 v3 v18 fun p19=>
 kra p19 6 v3 fun v20=>
 k [v20,q48] p19)
 (knc mth a0 fun v21=>
 kfa 2 v21 fun v22=>
 kld p16 v22 fun v23=>
 kbd q1 [(0,1,a1),(1,1,a2)] fun v24=>
 ksw mth p16 (.lookup ⟨true,[(0,.s),(1,.s)]⟩ q32 true (.c v23) (.c v24)) fun v25 p26=>
 kex v25 0 fun v27=>
 kex v25 1 fun v28=>
 knt v28 fun v29=>
 kif v29
 (kbd q111 [] fun v30=>
 kst p26 6 v3 v30 fun p31=>
 kra p31 6 v3 fun v32=>
 k [v32,q55] p31)
 (knc mth a0 fun v33=>
 kfa 1 v33 fun v34=>
 kld p26 v34 fun v35=>
 kia 6 v35 v27 fun v36=>
 kla p26 6 v36 fun v37=>
 cn f90 p26 [v37] fun v38 p39=>
 kst p39 6 v3 v38 fun p40=>
 kra p40 6 v3 fun v41=>
 k [v41,q32] p40))
theorem o46:FO EN 46 f46:=fe 3 (tc (cn_ok o90) tnil) [none,none] (by kernel_rfl) fun p s k=>by kernel_rfl
def f22:FT:=fun p s k=>hd s fun a0 s0=>
 hd s0 fun a1 s1=>
 nl s1<|
 kbx p 5 a0 fun v2 p3=>
 kbx p3 3 a1 fun v4 p5=>
 kal p5 q111 fun v6 p7=>
 kfa 0 v2 fun v8=>
 kld p7 v8 fun v9=>
 ken false .p v9 .nilp fun v10=>
 kif v10
 (kbd q111 [] fun v11=>
 kst p7 6 v6 v11 fun p12=>
 kra p12 6 v6 fun v13=>
 k [v13,q48] p12)
 (kla p7 3 v4 fun v14=>
 cn f45 p7 [v14] fun v15 p16=>
 keq true .i v15 q32 fun v17=>
 kif v17
 (kbd q111 [] fun v18=>
 kst p16 6 v6 v18 fun p19=>
 kra p19 6 v6 fun v20=>
 k [v20,v15] p19)
 (kfa 0 v2 fun v21=>
 kld p16 v21 fun v22=>
 kfa 0 v4 fun v23=>
 kfa 0 v23 fun v24=>
 kld p16 v24 fun v25=>
 kfa 2 v4 fun v26=>
 kld p16 v26 fun v27=>
 ci f46 p16 [v22,v25,v27] fun v28 p29=>
 kex v28 0 fun v30=>
 kex v28 1 fun v31=>
 kst p29 6 v6 v30 fun p32=>
 kra p32 6 v6 fun v33=>
 k [v33,v31] p32))
theorem o22:FO EN 22 f22:=fe 2 (tc (cn_ok o45) (tc (ci_ok o46) tnil)) [none,none] (by kernel_rfl) fun p s k=>by kernel_rfl
def t183:List Ce:=[⟨167,cn f167⟩,⟨34,c34⟩]
def f183:FT:=fun p s k=>hd s fun a0 s0=>
 hd s0 fun a1 s1=>
 nl s1<|
 kbx p 2 a0 fun v2 p3=>
 kbx p3 6 a1 fun v4 p5=>
 kfa 1 v2 fun v6=>
 kld p5 v6 fun v7=>
 jn 1 (fun j8=>
 lp 2 fuel (fun r9 v10 v11 p12=>
 ken true .p v11 .nilp fun v13=>
 kif v13
 (kfa 0 v2 fun v14=>
 kld (prt [] p12) v14 fun v15=>
 knc mth v11 fun v16=>
 kfa 0 v16 fun v17=>
 kfa 0 v17 fun v18=>
 kla (prt [] p12) 6 v18 fun v19=>
 kla (prt [] p12) 6 v4 fun v20=>
 kcv t183 p12 v15 [v19,v20] fun v21 p22=>
 klt v21 q32 fun v23=>
 jn 2 (fun j24 => kif v23
 (knc mth v11 fun v25=>
 kfa 6 v25 fun v26=>
 kld p22 v26 fun v27=>
 cn f167 p22 [v27] fun v28 p29=>
 kad v28 q44 fun v30=>
 kad v10 v30 fun v31=>
 knc mth v11 fun v32=>
 kfa 7 v32 fun v33=>
 kld p29 v33 fun v34=>
 j24 v31 v34 p29)
 (knc mth v11 fun v35=>
 kfa 6 v35 fun v36=>
 kld p22 v36 fun v37=>
 j24 v10 v37 p22)) fun v38 v39 p40=>
 r9 v38 v39 p40)
 (j8 v10 p12)) q32 v7 p5) fun v41 p42=>
 k [v41] p42
theorem o183:FO EN 183 f183:=fe 2 (T:=t183) (tc (cn_ok o167) (tc c34_ok tnil)) [some [5],some [5,6],none,none,some [5,6]] (by kernel_rfl) fun p s k=>by kernel_rfl
def f184:FT:=fun p s k=>hd s fun a0 s0=>
 hd s0 fun a1 s1=>
 nl s1<|
 kbx p 2 a0 fun v2 p3=>
 kal p3 q27 fun v4 p5=>
 klt a1 q32 fun v6=>
 jn 4 (fun j7=>gdK v6 false (kla p5 2 v2 fun v8=>
 cn f123 p5 [v8] fun v9 p10=>
 kge a1 v9 fun v11=>
 j7 a1 v8 v9 v11 p10) (j7 .undef .undef .undef .undef p5)) fun v12 v13 v14 v15 p16=>
 kpk v6 q53 v15 fun v17=>
 kif v17
 (kbd q27 [] fun v18=>
 kst p16 6 v4 v18 fun p19=>
 kra p19 6 v4 fun v20=>
 k [v20,q47] p19)
 (kfa 1 v2 fun v21=>
 kld p16 v21 fun v22=>
 jn 0 (fun j23=>
 lp 2 fuel (fun r24 v25 v26 p27=>
 knc mth v26 fun v28=>
 kfa 6 v28 fun v29=>
 kld p27 v29 fun v30=>
 cn f167 p27 [v30] fun v31 p32=>
 klt v25 v31 fun v33=>
 jn 2 (fun j34 => kif v33
 (knc mth v26 fun v35=>
 kfa 6 v35 fun v36=>
 kld p32 v36 fun v37=>
 j34 v25 v37 p32)
 (kgt v25 v31 fun v38=>
 kif v38
 (kad v31 q44 fun v39=>
 ksb v25 v39 fun v40=>
 knc mth v26 fun v41=>
 kfa 7 v41 fun v42=>
 kld p32 v42 fun v43=>
 j34 v40 v43 p32)
 (knc mth v26 fun v44=>
 kfa 0 v44 fun v45=>
 kla p32 6 v45 fun v46=>
 kst p32 6 v4 v46 fun p47=>
 kra p47 6 v4 fun v48=>
 k [v48,q32] p47))) fun v49 v50 p51=>
 r24 v49 v50 p51) a1 v22 p16) fun p52=>
 kra p52 6 v4 fun v53=>
 k [v53,.junk] p52)
theorem o184:FO EN 184 f184:=fe 2 (tc (cn_ok o123) (tc (cn_ok o167) tnil)) [none,some [],some [1,6],none,none,some [1,6],none] (by kernel_rfl) fun p s k=>by kernel_rfl
def f150:FT:=fun p s k=>hd s fun a0 s0=>
 hd s0 fun a1 s1=>
 nl s1<|
 kbx p 6 a0 fun v2 p3=>
 kfa 0 v2 fun v4=>
 kla p3 3 v4 fun v5=>
 kla p3 3 a1 fun v6=>
 kea false [(0,.s),(1,.s),(2,.s)] v5 v6 fun v7=>
 k [v7] p3
theorem o150:FO EN 150 f150:=fe 2 tnil [] (by kernel_rfl) fun p s k=>by kernel_rfl
def t149:List Ce:=[⟨183,cn f183⟩,⟨123,cn f123⟩,⟨184,cn f184⟩,⟨84,cn f84⟩,⟨150,cn f150⟩]
def f149:FT:=fun p s k=>hd s fun a0 s0=>
 hd s0 fun a1 s1=>
 hd s1 fun a2 s2=>
 nl s2<|
 kbx p 2 a0 fun v3 p4=>
 kbx p4 6 a1 fun v5 p6=>
 kfa 0 v3 fun v7=>
 kla p6 2 v7 fun v8=>
 kla p6 6 v5 fun v9=>
 cn f183 p6 [v8,v9] fun v10 p11=>
 jn 1 (fun j12=>
 lp 1 fuel (fun r13 v14 p15=>
 kfa 0 v3 fun v16=>
 kla p15 2 v16 fun v17=>
 cn f123 p15 [v17] fun v18 p19=>
 klt v14 v18 fun v20=>
 kif v20
 (kfa 0 v3 fun v21=>
 kla p19 2 v21 fun v22=>
 cn f184 p19 [v22,v14] fun v23 p24=>
 kex v23 0 fun v25=>
 kex v23 1 fun v26=>
 kal p24 q27 fun v27 p28=>
 kst p28 6 v27 v25 fun p29=>
 kfa 0 v27 fun v30=>
 kla p29 6 v30 fun v31=>
 kcv t149 p29 a2 [v31] fun v32 p33=>
 knt v32 fun v34=>
 kif v34
 (j12 v14 p33)
 (kad v14 q44 fun v35=>
 r13 v35 p33))
 (j12 v14 p19)) v10 p11) fun v36 p37=>
 kla p37 2 v3 fun v38=>
 cn f84 p37 [v38,v10,v36] fun v39 p40=>
 k [v39] p40
theorem o149:FO EN 149 f149:=fe 3 (T:=t149) (tc (cn_ok o183) (tc (cn_ok o123) (tc (cn_ok o184) (tc (cn_ok o84) (tc (cn_ok o150) tnil))))) [some [8],some [8],none,none,none] (by kernel_rfl) fun p s k=>by kernel_rfl
def f91:FT:=fun p s k=>hd s fun a0 s0=>
 hd s0 fun a1 s1=>
 nl s1<|
 kbx p 4 a0 fun v2 p3=>
 kbx p3 3 a1 fun v4 p5=>
 kfa 0 v2 fun v6=>
 kla p5 2 v6 fun v7=>
 kla p5 3 v4 fun v8=>
 kbd q27 [(0,3,v8)] fun v9=>
 cn f149 p5 [v7,v9,(.func (.func 150) [] [v4])] fun v10 p11=>
 k [v10] p11
theorem o91:FO EN 91 f91:=fe 2 (tc (cn_ok o149) tnil) [] (by kernel_rfl) fun p s k=>by kernel_rfl
end
end Go.V
end
