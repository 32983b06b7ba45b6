/-
  Parts of the proof, from: YtacccjmlocoahaaGreatZn0
-/
import Derived.KernelRfl
import Derived.Test.YtacccjmlocoahaaGreatZ8

set_option linter.unusedVariables false
section
set_option maxRecDepth 1000000
set_option maxHeartbeats 0
namespace Go.V
noncomputable section
def eL (a b c d e f:List UInt8):List Val:=[.str a,.str b,.str c,.str d,.str e,.str f]
def eG (a b:UInt8):List Val:=[.str [100,111,99],.str [121],.str [118,105,101,119,101,114],.str [103,114,111,117,112],.str [a,b],.str [109,101,109,98,101,114]]
def catE (x m:List Val):List Val:=List.rec (motive:=fun _=>List Val) m (fun v _ ih=>v::ih) x
def fl6 (l:List (List Val)):List Val:=List.rec (motive:=fun _=>List Val) [] (fun x _ ih=>catE x ih) l
def ovE (w:List (List Val)):List (List Val)→List (List Val):=List.rec (motive:=fun _=>List (List Val)→List (List Val)) (fun l=>l) (fun x _ ih l=>List.rec (motive:=fun _=>List (List Val)) [] (fun _ t _=>x::ih t) l) w
def spE (a:Nat) (w:List (List Val)):List (List Val)→List (List Val):=Nat.rec (motive:=fun _=>List (List Val)→List (List Val)) (fun l=>ovE w l) (fun _ ih l=>List.rec (motive:=fun _=>List (List Val)) [] (fun x t _=>x::ih t) l) a
def hE (l:List (List Val)):Heap:=⟨nat_lit 1,.node .leaf (some (.cells (fl6 l))) .leaf,[],nat_lit 0,nat_lit 0⟩
def sE:Val:=.slice (nat_lit 0) (nat_lit 0) (nat_lit 304) (nat_lit 304) (nat_lit 6)
def iE (n:Nat):Val:=.int .i64 (.ofNat n)
def cE:Val:=.func (.func (nat_lit 34)) [] []
def E0:List (List Val):=[eL [100,111,99] [120] [112,97,114,101,110,116] [102,111,108,100,101,114] [102] [],eL [100,111,99] [120] [111,119,110,101,114] [117,115,101,114] [97] [],eL [100,111,99] [120] [118,105,101,119,101,114] [103,114,111,117,112] [103] [109,101,109,98,101,114],eL [100,111,99] [120] [118,105,101,119,101,114] [117,115,101,114] [98] [],eG 97 97,eG 98 97,eG 99 97,eG 100 97,eG 101 97,eG 102 97,eG 103 97,eG 104 97,eG 105 97,eG 106 97,eG 107 97,eG 108 97,eG 109 97,eG 110 97,eG 111 97,eG 112 97,eG 113 97,eG 114 97,eG 115 97,eG 116 97,eG 97 98,eG 98 98,eG 99 98,eG 100 98,eG 101 98,eG 102 98,eG 103 98,eG 104 98,eG 105 98,eG 106 98,eG 107 98,eG 108 98,eG 109 98,eG 110 98,eG 111 98,eG 112 98,eG 113 98,eG 114 98,eG 115 98,eG 116 98,eG 97 99,eG 98 99,eG 99 99,eG 100 99,eG 101 99,eG 102 99,eG 103 99,eG 104 99,eG 105 99,eG 106 99,eG 107 99,eG 108 99,eG 109 99,eG 110 99,eG 111 99,eG 112 99,eG 113 99,eG 114 99,eG 115 99,eG 116 99,eG 97 100,eG 98 100,eG 99 100,eG 100 100,eG 101 100,eG 102 100,eG 103 100,eG 104 100,eG 105 100,eG 106 100,eG 107 100,eG 108 100,eG 109 100,eG 110 100,eG 111 100,eG 112 100,eG 113 100,eG 114 100,eG 115 100,eG 116 100,eG 97 101,eG 98 101,eG 99 101,eG 100 101,eG 101 101,eG 102 101,eG 103 101,eG 104 101,eG 105 101,eG 106 101,eG 107 101,eG 108 101,eG 109 101,eG 110 101,eG 111 101,eG 112 101,eG 113 101,eG 114 101,eG 115 101,eG 116 101,eG 97 102,eG 98 102,eG 99 102,eG 100 102,eG 101 102,eG 102 102,eG 103 102,eG 104 102,eG 105 102,eG 106 102,eG 107 102,eG 108 102,eG 109 102,eG 110 102,eG 111 102,eG 112 102,eG 113 102,eG 114 102,eG 115 102,eG 116 102,eG 97 103,eG 98 103,eG 99 103,eG 100 103,eG 101 103,eG 102 103,eG 103 103,eG 104 103,eG 105 103,eG 106 103,eG 107 103,eG 108 103,eG 109 103,eG 110 103,eG 111 103,eG 112 103,eG 113 103,eG 114 103,eG 115 103,eG 116 103,eG 97 104,eG 98 104,eG 99 104,eG 100 104,eG 101 104,eG 102 104,eG 103 104,eG 104 104,eG 105 104,eG 106 104,eG 107 104,eG 108 104,eG 109 104,eG 110 104,eG 111 104,eG 112 104,eG 113 104,eG 114 104,eG 115 104,eG 116 104,eG 97 105,eG 98 105,eG 99 105,eG 100 105,eG 101 105,eG 102 105,eG 103 105,eG 104 105,eG 105 105,eG 106 105,eG 107 105,eG 108 105,eG 109 105,eG 110 105,eG 111 105,eG 112 105,eG 113 105,eG 114 105,eG 115 105,eG 116 105,eG 97 106,eG 98 106,eG 99 106,eG 100 106,eG 101 106,eG 102 106,eG 103 106,eG 104 106,eG 105 106,eG 106 106,eG 107 106,eG 108 106,eG 109 106,eG 110 106,eG 111 106,eG 112 106,eG 113 106,eG 114 106,eG 115 106,eG 116 106,eG 97 107,eG 98 107,eG 99 107,eG 100 107,eG 101 107,eG 102 107,eG 103 107,eG 104 107,eG 105 107,eG 106 107,eG 107 107,eG 108 107,eG 109 107,eG 110 107,eG 111 107,eG 112 107,eG 113 107,eG 114 107,eG 115 107,eG 116 107,eG 97 108,eG 98 108,eG 99 108,eG 100 108,eG 101 108,eG 102 108,eG 103 108,eG 104 108,eG 105 108,eG 106 108,eG 107 108,eG 108 108,eG 109 108,eG 110 108,eG 111 108,eG 112 108,eG 113 108,eG 114 108,eG 115 108,eG 116 108,eG 97 109,eG 98 109,eG 99 109,eG 100 109,eG 101 109,eG 102 109,eG 103 109,eG 104 109,eG 105 109,eG 106 109,eG 107 109,eG 108 109,eG 109 109,eG 110 109,eG 111 109,eG 112 109,eG 113 109,eG 114 109,eG 115 109,eG 116 109,eG 97 110,eG 98 110,eG 99 110,eG 100 110,eG 101 110,eG 102 110,eG 103 110,eG 104 110,eG 105 110,eG 106 110,eG 107 110,eG 108 110,eG 109 110,eG 110 110,eG 111 110,eG 112 110,eG 113 110,eG 114 110,eG 115 110,eG 116 110,eG 97 111,eG 98 111,eG 99 111,eG 100 111,eG 101 111,eG 102 111,eG 103 111,eG 104 111,eG 105 111,eG 106 111,eG 107 111,eG 108 111,eG 109 111,eG 110 111,eG 111 111,eG 112 111,eG 113 111,eG 114 111,eG 115 111,eG 116 111]
def E1:List (List Val):=spE (nat_lit 0) [eG 104 103,eL [100,111,99] [120] [111,119,110,101,114] [117,115,101,114] [97] [],eL [100,111,99] [120] [118,105,101,119,101,114] [103,114,111,117,112] [103] [109,101,109,98,101,114],eL [100,111,99] [120] [118,105,101,119,101,114] [117,115,101,114] [98] [],eG 97 97,eG 98 97,eG 99 97,eG 100 97,eG 101 97,eG 102 97,eG 103 97,eG 104 97,eG 105 97,eG 104 111,eG 103 111,eG 102 111,eG 101 111,eG 100 111,eG 99 111,eG 98 111,eG 97 111,eG 104 110,eG 103 110,eG 102 110,eG 97 98,eG 98 98,eG 99 98,eG 100 98,eG 101 98,eG 102 98,eG 103 98,eG 104 98,eG 105 98,eG 101 110,eG 100 110,eG 99 110,eG 98 110,eG 97 110,eG 104 109,eG 103 109,eG 102 109,eG 101 109,eG 100 109,eG 99 109,eG 97 99,eG 98 99,eG 99 99,eG 100 99,eG 101 99,eG 102 99,eG 103 99,eG 104 99,eG 105 99,eG 98 109,eG 97 109,eG 104 108,eG 103 108,eG 102 108,eG 101 108,eG 100 108,eG 99 108,eG 98 108,eG 97 108,eG 104 107,eG 97 100,eG 98 100,eG 99 100,eG 100 100,eG 101 100,eG 102 100,eG 103 100,eG 104 100,eG 105 100,eG 103 107,eG 102 107,eG 101 107,eG 100 107,eG 99 107,eG 98 107,eG 97 107,eG 104 106,eG 103 106,eG 102 106,eG 101 106,eG 97 101,eG 98 101,eG 99 101,eG 100 101,eG 101 101,eG 102 101,eG 103 101,eG 104 101,eG 105 101,eG 100 106,eG 99 106,eG 98 106,eG 97 106,eG 104 105,eG 103 105,eG 102 105,eG 101 105,eG 100 105,eG 99 105,eG 98 105,eG 97 102,eG 98 102,eG 99 102,eG 100 102,eG 101 102,eG 102 102,eG 103 102,eG 104 102,eG 105 102,eG 97 105,eL [100,111,99] [120] [112,97,114,101,110,116] [102,111,108,100,101,114] [102] [],eG 104 104,eG 103 104,eG 102 104,eG 101 104,eG 100 104,eG 99 104,eG 98 104,eG 97 104,eG 105 103,eG 97 103,eG 98 103,eG 99 103,eG 100 103,eG 101 103,eG 102 103,eG 103 103,eG 105 104,eG 116 102,eG 106 103,eG 107 103,eG 108 103,eG 109 103,eG 110 103,eG 111 103,eG 112 103,eG 113 103,eG 114 103,eG 115 103,eG 116 103,eG 115 102,eG 114 102,eG 113 102,eG 112 102,eG 111 102,eG 110 102,eG 109 102,eG 108 102,eG 107 102,eG 106 104,eG 107 104,eG 108 104,eG 109 104,eG 110 104,eG 111 104,eG 112 104,eG 113 104,eG 114 104,eG 115 104,eG 116 104,eG 106 102,eG 116 101,eG 115 101,eG 114 101,eG 113 101,eG 112 101,eG 111 101,eG 110 101,eG 105 105,eG 106 105,eG 107 105,eG 108 105,eG 109 105,eG 110 105,eG 111 105,eG 112 105,eG 113 105,eG 114 105,eG 115 105,eG 116 105,eG 109 101,eG 108 101,eG 107 101,eG 106 101,eG 116 100,eG 115 100,eG 114 100,eG 113 100,eG 105 106,eG 106 106,eG 107 106,eG 108 106,eG 109 106,eG 110 106,eG 111 106,eG 112 106,eG 113 106,eG 114 106,eG 115 106,eG 116 106,eG 112 100,eG 111 100,eG 110 100,eG 109 100,eG 108 100,eG 107 100,eG 106 100,eG 116 99,eG 105 107,eG 106 107,eG 107 107,eG 108 107,eG 109 107,eG 110 107,eG 111 107,eG 112 107,eG 113 107,eG 114 107,eG 115 107,eG 116 107,eG 115 99,eG 114 99,eG 113 99,eG 112 99,eG 111 99,eG 110 99,eG 109 99,eG 108 99,eG 105 108,eG 106 108,eG 107 108,eG 108 108,eG 109 108,eG 110 108,eG 111 108,eG 112 108,eG 113 108,eG 114 108,eG 115 108,eG 116 108,eG 107 99,eG 106 99,eG 116 98,eG 115 98,eG 114 98,eG 113 98,eG 112 98,eG 111 98,eG 105 109,eG 106 109,eG 107 109,eG 108 109,eG 109 109,eG 110 109,eG 111 109,eG 112 109,eG 113 109,eG 114 109,eG 115 109,eG 116 109,eG 110 98,eG 109 98,eG 108 98,eG 107 98,eG 106 98,eG 116 97,eG 115 97,eG 114 97,eG 105 110,eG 106 110,eG 107 110,eG 108 110,eG 109 110,eG 110 110,eG 111 110,eG 112 110,eG 113 110,eG 114 110,eG 115 110,eG 116 110,eG 113 97,eG 112 97,eG 111 97,eG 110 97,eG 109 97,eG 108 97,eG 107 97,eG 106 97] E0
def en0:Me:=⟨hE E0,[sE,iE (nat_lit 0),iE (nat_lit 304),iE (nat_lit 152),cE],[iE (nat_lit 131),.bool false],hE E1⟩
theorem ep0:isOk (f117 en0.h en0.a (chkM en0))=true:=by kernel_rfl
def E2:List (List Val):=spE (nat_lit 0) [eG 97 110,eL [100,111,99] [120] [111,119,110,101,114] [117,115,101,114] [97] [],eL [100,111,99] [120] [118,105,101,119,101,114] [103,114,111,117,112] [103] [109,101,109,98,101,114],eL [100,111,99] [120] [118,105,101,119,101,114] [117,115,101,114] [98] [],eG 97 97,eG 98 97,eG 98 103,eG 97 103,eG 97 104,eG 98 104,eL [100,111,99] [120] [112,97,114,101,110,116] [102,111,108,100,101,114] [102] [],eG 97 105,eG 98 102,eG 97 102,eG 98 105,eG 97 106,eG 98 101,eG 97 101,eG 97 107,eG 98 100,eG 97 111,eG 97 100,eG 97 108,eG 97 109,eG 97 98,eG 98 98,eG 98 99,eG 97 99,eG 98 106,eG 102 98,eG 103 98,eG 104 98,eG 105 98,eG 101 110,eG 100 110,eG 99 110,eG 98 110,eG 101 98,eG 104 109,eG 103 109,eG 102 109,eG 101 109,eG 100 109,eG 99 109,eG 100 98,eG 99 98,eG 99 99,eG 100 99,eG 101 99,eG 102 99,eG 103 99,eG 104 99,eG 105 99,eG 98 109,eG 102 110,eG 104 108,eG 103 108,eG 102 108,eG 101 108,eG 100 108,eG 99 108,eG 98 108,eG 103 110,eG 104 107,eG 104 110,eG 98 111,eG 99 100,eG 100 100,eG 101 100,eG 102 100,eG 103 100,eG 104 100,eG 105 100,eG 103 107,eG 102 107,eG 101 107,eG 100 107,eG 99 107,eG 98 107,eG 99 111,eG 104 106,eG 103 106,eG 102 106,eG 101 106,eG 100 111,eG 101 111,eG 99 101,eG 100 101,eG 101 101,eG 102 101,eG 103 101,eG 104 101,eG 105 101,eG 100 106,eG 99 106,eG 104 103,eG 102 111,eG 104 105,eG 103 105,eG 102 105,eG 101 105,eG 100 105,eG 99 105,eG 103 111,eG 104 111,eG 105 97,eG 99 102,eG 100 102,eG 101 102,eG 102 102,eG 103 102,eG 104 102,eG 105 102,eG 104 97,eG 103 97,eG 104 104,eG 103 104,eG 102 104,eG 101 104,eG 100 104,eG 99 104,eG 102 97,eG 101 97,eG 105 103,eG 100 97,eG 99 97] E1
def en1:Me:=⟨hE E1,[sE,iE (nat_lit 0),iE (nat_lit 131),iE (nat_lit 95),cE],[iE (nat_lit 28),.bool false],hE E2⟩
theorem ep1:isOk (f117 en1.h en1.a (chkM en1))=true:=by kernel_rfl
def E3:List (List Val):=spE (nat_lit 0) [eL [100,111,99] [120] [112,97,114,101,110,116] [102,111,108,100,101,114] [102] [],eL [100,111,99] [120] [111,119,110,101,114] [117,115,101,114] [97] [],eL [100,111,99] [120] [118,105,101,119,101,114] [103,114,111,117,112] [103] [109,101,109,98,101,114],eL [100,111,99] [120] [118,105,101,119,101,114] [117,115,101,114] [98] [],eG 97 97,eG 97 99,eG 97 98,eG 97 100,eG 97 101,eG 97 102,eG 97 103,eG 97 105,eG 98 102,eG 98 104,eG 98 105,eG 97 106,eG 98 101,eG 97 104,eG 97 107,eG 98 100,eG 97 111,eG 97 110,eG 97 108,eG 97 109,eG 98 103,eG 98 98,eG 98 99,eG 98 97] E2
def en2:Me:=⟨hE E2,[sE,iE (nat_lit 0),iE (nat_lit 28),iE (nat_lit 7),cE],[iE (nat_lit 10),.bool false],hE E3⟩
theorem ep2:isOk (f117 en2.h en2.a (chkM en2))=true:=by kernel_rfl
def E4:List (List Val):=spE (nat_lit 0) [eL [100,111,99] [120] [111,119,110,101,114] [117,115,101,114] [97] [],eL [100,111,99] [120] [112,97,114,101,110,116] [102,111,108,100,101,114] [102] [],eL [100,111,99] [120] [118,105,101,119,101,114] [103,114,111,117,112] [103] [109,101,109,98,101,114],eL [100,111,99] [120] [118,105,101,119,101,114] [117,115,101,114] [98] [],eG 97 97,eG 97 98,eG 97 99] E3
def en3:Me:=⟨hE E3,[sE,iE (nat_lit 0),iE (nat_lit 10),cE],[],hE E4⟩
theorem ep3:isOk (f110 en3.h en3.a (chkM en3))=true:=by kernel_rfl
def E5:List (List Val):=spE (nat_lit 11) [eG 97 104,eG 97 105,eG 97 108,eG 97 107,eG 97 106,eG 97 109,eG 98 101,eG 98 105,eG 98 100,eG 97 111,eG 97 110,eG 98 104,eG 98 102] E4
def en4:Me:=⟨hE E4,[sE,iE (nat_lit 11),iE (nat_lit 28),iE (nat_lit 23),cE],[iE (nat_lit 16),.bool false],hE E5⟩
theorem ep4:isOk (f117 en4.h en4.a (chkM en4))=true:=by kernel_rfl
def E6:List (List Val):=spE (nat_lit 13) [eG 97 106,eG 97 107,eG 97 108] E5
def en5:Me:=⟨hE E5,[sE,iE (nat_lit 11),iE (nat_lit 16),cE],[],hE E6⟩
theorem ep5:isOk (f110 en5.h en5.a (chkM en5))=true:=by kernel_rfl
def E7:List (List Val):=spE (nat_lit 17) [eG 97 110,eG 97 111,eG 98 97,eG 98 98,eG 98 99,eG 98 100,eG 98 101,eG 98 102,eG 98 103,eG 98 104,eG 98 105] E6
def en6:Me:=⟨hE E6,[sE,iE (nat_lit 17),iE (nat_lit 28),cE],[],hE E7⟩
theorem ep6:isOk (f110 en6.h en6.a (chkM en6))=true:=by kernel_rfl
def E8:List (List Val):=spE (nat_lit 29) [eG 100 106,eG 102 103,eG 101 103,eG 100 103,eG 101 110,eG 100 110,eG 99 110,eG 98 110,eG 101 98,eG 99 103,eG 99 97,eG 102 109,eG 101 109,eG 100 109,eG 99 109,eG 100 98,eG 99 98,eG 99 99,eG 100 99,eG 101 99,eG 102 99,eG 100 97,eG 101 97,eG 102 97,eG 98 109,eG 102 98,eG 99 104,eG 100 104,eG 102 108,eG 101 108,eG 100 108,eG 99 108,eG 98 108,eG 101 104,eG 102 104,eG 102 102,eG 98 111,eG 99 100,eG 100 100,eG 101 100,eG 102 100,eG 101 102,eG 100 102,eG 99 102,eG 99 105,eG 102 107,eG 101 107,eG 100 107,eG 99 107,eG 98 107,eG 99 111,eG 100 105,eG 101 105,eG 102 106,eG 101 106,eG 100 111,eG 101 111,eG 99 101,eG 100 101,eG 101 101,eG 102 101,eG 102 105,eG 99 106,eG 102 110,eG 105 101,eG 104 101,eG 104 103,eG 102 111,eG 104 105,eG 103 105,eG 103 101,eG 103 106,eG 104 106,eG 103 107,eG 103 111,eG 104 111,eG 105 97,eG 105 100,eG 104 100,eG 103 100,eG 104 110,eG 103 102,eG 104 102,eG 105 102,eG 104 97,eG 103 97,eG 104 104,eG 103 104,eG 104 107,eG 103 110,eG 103 108,eG 104 108,eG 105 99,eG 104 99,eG 105 103,eG 103 99,eG 103 109,eG 104 109,eG 105 98,eG 104 98,eG 103 98] E7
def en7:Me:=⟨hE E7,[sE,iE (nat_lit 29),iE (nat_lit 131),iE (nat_lit 54),cE],[iE (nat_lit 92),.bool false],hE E8⟩
theorem ep7:isOk (f117 en7.h en7.a (chkM en7))=true:=by kernel_rfl
def E9:List (List Val):=spE (nat_lit 93) [eG 103 97,eG 104 101,eG 103 103,eG 102 111,eG 103 98,eG 103 105,eG 103 101,eG 103 106,eG 104 98,eG 103 107,eG 103 111,eG 103 109,eG 103 99,eG 104 99,eG 104 100,eG 103 100,eG 103 108,eG 103 102,eG 103 110,eG 103 104,eG 104 97,eG 104 102,eG 104 104,eG 105 102,eG 104 107,eG 105 101,eG 104 110,eG 104 108,eG 105 99,eG 105 100,eG 105 103,eG 105 97,eG 104 111,eG 104 109,eG 105 98,eG 104 106,eG 104 105,eG 104 103] E8
def en8:Me:=⟨hE E8,[sE,iE (nat_lit 93),iE (nat_lit 131),iE (nat_lit 111),cE],[iE (nat_lit 114),.bool false],hE E9⟩
theorem ep8:isOk (f117 en8.h en8.a (chkM en8))=true:=by kernel_rfl
def E10:List (List Val):=spE (nat_lit 115) [eG 104 111,eG 104 103,eG 104 107,eG 104 105,eG 104 110,eG 104 108,eG 104 106,eG 104 104,eG 104 109,eG 105 97,eG 105 98,eG 105 103,eG 105 100,eG 105 99,eG 105 101,eG 105 102] E9
def en9:Me:=⟨hE E9,[sE,iE (nat_lit 115),iE (nat_lit 131),iE (nat_lit 127),cE],[iE (nat_lit 125),.bool false],hE E10⟩
theorem ep9:isOk (f117 en9.h en9.a (chkM en9))=true:=by kernel_rfl
def E11:List (List Val):=spE (nat_lit 126) [eG 105 99,eG 105 100,eG 105 101,eG 105 102,eG 105 103] E10
def en10:Me:=⟨hE E10,[sE,iE (nat_lit 126),iE (nat_lit 131),cE],[],hE E11⟩
theorem ep10:isOk (f110 en10.h en10.a (chkM en10))=true:=by kernel_rfl
def E12:List (List Val):=spE (nat_lit 115) [eG 104 103,eG 104 104,eG 104 105,eG 104 106,eG 104 107,eG 104 108,eG 104 109,eG 104 110,eG 104 111] E11
def en11:Me:=⟨hE E11,[sE,iE (nat_lit 115),iE (nat_lit 125),cE],[],hE E12⟩
theorem ep11:isOk (f110 en11.h en11.a (chkM en11))=true:=by kernel_rfl
def E13:List (List Val):=spE (nat_lit 93) [eG 103 99,eG 103 104,eG 103 103,eG 102 111,eG 103 98,eG 103 97,eG 103 101,eG 103 102,eG 103 100,eG 103 105,eG 103 111,eG 103 109,eG 103 107,eG 104 99,eG 104 100,eG 104 98,eG 103 108,eG 103 106,eG 103 110,eG 104 101] E12
def en12:Me:=⟨hE E12,[sE,iE (nat_lit 93),iE (nat_lit 114),iE (nat_lit 98),cE],[iE (nat_lit 102),.bool false],hE E13⟩
theorem ep12:isOk (f117 en12.h en12.a (chkM en12))=true:=by kernel_rfl
def E14:List (List Val):=spE (nat_lit 93) [eG 102 111,eG 103 97,eG 103 98,eG 103 99,eG 103 100,eG 103 101,eG 103 102,eG 103 103,eG 103 104] E13
def en13:Me:=⟨hE E13,[sE,iE (nat_lit 93),iE (nat_lit 102),cE],[],hE E14⟩
theorem ep13:isOk (f110 en13.h en13.a (chkM en13))=true:=by kernel_rfl
def E15:List (List Val):=spE (nat_lit 103) [eG 103 106,eG 103 107,eG 103 108,eG 103 109,eG 103 110,eG 103 111,eG 104 97,eG 104 98,eG 104 99,eG 104 100,eG 104 101] E14
def en14:Me:=⟨hE E14,[sE,iE (nat_lit 103),iE (nat_lit 114),cE],[],hE E15⟩
theorem ep14:isOk (f110 en14.h en14.a (chkM en14))=true:=by kernel_rfl
def E16:List (List Val):=spE (nat_lit 29) [eG 99 108,eG 99 106,eG 100 101,eG 100 103,eG 99 101,eG 100 105,eG 99 110,eG 98 110,eG 99 111,eG 99 103,eG 99 97,eG 98 107,eG 99 107,eG 100 107,eG 99 109,eG 100 98,eG 99 98,eG 99 99,eG 100 99,eG 99 105,eG 99 102,eG 100 97,eG 100 102,eG 100 100,eG 98 109,eG 99 100,eG 99 104,eG 100 104,eG 98 111,eG 98 108,eG 100 106,eG 100 108,eG 101 108,eG 101 104,eG 102 104,eG 102 102,eG 102 108,eG 102 98,eG 102 97,eG 101 100,eG 102 100,eG 101 102,eG 101 97,eG 102 99,eG 101 99,eG 102 107,eG 101 107,eG 100 109,eG 101 109,eG 102 109,eG 101 98,eG 100 110,eG 101 105,eG 102 106,eG 101 106,eG 100 111,eG 101 111,eG 101 110,eG 101 103,eG 101 101,eG 102 101,eG 102 105,eG 102 103] E15
def en15:Me:=⟨hE E15,[sE,iE (nat_lit 29),iE (nat_lit 92),iE (nat_lit 59),cE],[iE (nat_lit 60),.bool false],hE E16⟩
theorem ep15:isOk (f117 en15.h en15.a (chkM en15))=true:=by kernel_rfl
def E17:List (List Val):=spE (nat_lit 29) [eG 99 99,eG 99 106,eG 98 108,eG 98 111,eG 99 101,eG 99 104,eG 99 100,eG 98 110,eG 98 109,eG 99 103,eG 99 97,eG 98 107,eG 99 107,eG 99 102,eG 99 108,eG 99 105,eG 99 98,eG 99 109,eG 100 99,eG 100 98,eG 100 107,eG 100 97,eG 100 102,eG 100 100,eG 99 111,eG 99 110,eG 100 105,eG 100 104,eG 100 103,eG 100 101] E16
def en16:Me:=⟨hE E16,[sE,iE (nat_lit 29),iE (nat_lit 60),iE (nat_lit 43),cE],[iE (nat_lit 46),.bool false],hE E17⟩
theorem ep16:isOk (f117 en16.h en16.a (chkM en16))=true:=by kernel_rfl
def E18:List (List Val):=spE (nat_lit 47) [eG 99 111,eG 99 110,eG 100 97,eG 100 99,eG 100 102,eG 100 100,eG 100 107,eG 100 98] E17
def en17:Me:=⟨hE E17,[sE,iE (nat_lit 47),iE (nat_lit 60),iE (nat_lit 50),cE],[iE (nat_lit 49),.bool false],hE E18⟩
theorem ep17:isOk (f117 en17.h en17.a (chkM en17))=true:=by kernel_rfl
end
end Go.V
end
section
set_option maxRecDepth 1000000
set_option maxHeartbeats 0
namespace Go.V
noncomputable section
def E19:List (List Val):=spE (nat_lit 47) [eG 99 110,eG 99 111] E18
def en18:Me:=⟨hE E18,[sE,iE (nat_lit 47),iE (nat_lit 49),cE],[],hE E19⟩
theorem ep18:isOk (f110 en18.h en18.a (chkM en18))=true:=by kernel_rfl
def E20:List (List Val):=spE (nat_lit 50) [eG 100 98,eG 100 99,eG 100 100,eG 100 101,eG 100 102,eG 100 103,eG 100 104,eG 100 105,eG 100 106,eG 100 107] E19
def en19:Me:=⟨hE E19,[sE,iE (nat_lit 50),iE (nat_lit 60),cE],[],hE E20⟩
theorem ep19:isOk (f110 en19.h en19.a (chkM en19))=true:=by kernel_rfl
def E21:List (List Val):=spE (nat_lit 29) [eG 99 97,eG 99 98,eG 98 108,eG 98 111,eG 99 99,eG 98 107,eG 99 100,eG 98 110,eG 98 109,eG 99 101,eG 99 103,eG 99 104,eG 99 107,eG 99 102,eG 99 108,eG 99 105,eG 99 106] E20
def en20:Me:=⟨hE E20,[sE,iE (nat_lit 29),iE (nat_lit 46),iE (nat_lit 33),cE],[iE (nat_lit 38),.bool false],hE E21⟩
theorem ep20:isOk (f117 en20.h en20.a (chkM en20))=true:=by kernel_rfl
def E22:List (List Val):=spE (nat_lit 39) [eG 99 102,eG 99 103,eG 99 104,eG 99 105,eG 99 106,eG 99 107,eG 99 108] E21
def en21:Me:=⟨hE E21,[sE,iE (nat_lit 39),iE (nat_lit 46),cE],[],hE E22⟩
theorem ep21:isOk (f110 en21.h en21.a (chkM en21))=true:=by kernel_rfl
def E23:List (List Val):=spE (nat_lit 29) [eG 98 107,eG 98 108,eG 98 109,eG 98 110,eG 98 111,eG 99 97,eG 99 98,eG 99 99,eG 99 100] E22
def en22:Me:=⟨hE E22,[sE,iE (nat_lit 29),iE (nat_lit 38),cE],[],hE E23⟩
theorem ep22:isOk (f110 en22.h en22.a (chkM en22))=true:=by kernel_rfl
def E24:List (List Val):=spE (nat_lit 61) [eG 100 109,eG 101 104,eG 101 101,eG 101 103,eG 100 111,eG 101 106,eG 101 105,eG 101 100,eG 100 110,eG 101 102,eG 101 97,eG 101 98,eG 101 99,eG 101 107,eG 101 108,eG 102 107,eG 101 109,eG 102 109,eG 102 99,eG 102 100,eG 102 97,eG 102 106,eG 102 98,eG 102 108,eG 101 111,eG 101 110,eG 102 102,eG 102 104] E23
def en23:Me:=⟨hE E23,[sE,iE (nat_lit 61),iE (nat_lit 92),iE (nat_lit 75),cE],[iE (nat_lit 74),.bool false],hE E24⟩
theorem ep23:isOk (f117 en23.h en23.a (chkM en23))=true:=by kernel_rfl
def E25:List (List Val):=spE (nat_lit 61) [eG 101 102,eG 101 99,eG 101 101,eG 100 109,eG 100 111,eG 101 98,eG 101 97,eG 101 100,eG 100 110,eG 101 103,eG 101 105,eG 101 106,eG 101 104] E24
def en24:Me:=⟨hE E24,[sE,iE (nat_lit 61),iE (nat_lit 74),iE (nat_lit 64),cE],[iE (nat_lit 70),.bool false],hE E25⟩
theorem ep24:isOk (f117 en24.h en24.a (chkM en24))=true:=by kernel_rfl
def E26:List (List Val):=spE (nat_lit 71) [eG 101 104,eG 101 105,eG 101 106] E25
def en25:Me:=⟨hE E25,[sE,iE (nat_lit 71),iE (nat_lit 74),cE],[],hE E26⟩
theorem ep25:isOk (f110 en25.h en25.a (chkM en25))=true:=by kernel_rfl
def E27:List (List Val):=spE (nat_lit 61) [eG 100 109,eG 100 110,eG 100 111,eG 101 97,eG 101 98,eG 101 99,eG 101 100,eG 101 101,eG 101 102] E26
def en26:Me:=⟨hE E26,[sE,iE (nat_lit 61),iE (nat_lit 70),cE],[],hE E27⟩
theorem ep26:isOk (f110 en26.h en26.a (chkM en26))=true:=by kernel_rfl
def E28:List (List Val):=spE (nat_lit 75) [eG 102 97,eG 101 110,eG 101 109,eG 101 111,eG 101 108,eG 102 98,eG 102 99,eG 102 106,eG 102 100,eG 102 108,eG 102 109,eG 102 107] E27
def en27:Me:=⟨hE E27,[sE,iE (nat_lit 75),iE (nat_lit 92),iE (nat_lit 79),cE],[iE (nat_lit 81),.bool false],hE E28⟩
theorem ep27:isOk (f117 en27.h en27.a (chkM en27))=true:=by kernel_rfl
def E29:List (List Val):=spE (nat_lit 75) [eG 101 108,eG 101 109,eG 101 110,eG 101 111,eG 102 97] E28
def en28:Me:=⟨hE E28,[sE,iE (nat_lit 75),iE (nat_lit 81),cE],[],hE E29⟩
theorem ep28:isOk (f110 en28.h en28.a (chkM en28))=true:=by kernel_rfl
def E30:List (List Val):=spE (nat_lit 82) [eG 102 100,eG 102 101,eG 102 102,eG 102 103,eG 102 104,eG 102 105,eG 102 106,eG 102 107,eG 102 108,eG 102 109] E29
def en29:Me:=⟨hE E29,[sE,iE (nat_lit 82),iE (nat_lit 92),cE],[],hE E30⟩
theorem ep29:isOk (f110 en29.h en29.a (chkM en29))=true:=by kernel_rfl
def E31:List (List Val):=spE (nat_lit 132) [eG 111 99,eG 106 103,eG 107 103,eG 108 103,eG 109 103,eG 110 103,eG 111 103,eG 110 111,eG 109 111,eG 108 111,eG 107 111,eG 106 111,eG 105 111,eG 106 97,eG 107 97,eG 108 97,eG 111 102,eG 110 102,eG 109 102,eG 108 102,eG 107 102,eG 106 104,eG 107 104,eG 108 104,eG 109 104,eG 110 104,eG 111 104,eG 109 97,eG 110 97,eG 111 97,eG 110 110,eG 109 110,eG 106 102,eG 108 110,eG 107 110,eG 106 110,eG 105 110,eG 106 98,eG 111 101,eG 110 101,eG 105 105,eG 106 105,eG 107 105,eG 108 105,eG 109 105,eG 110 105,eG 111 105,eG 107 98,eG 108 98,eG 109 98,eG 110 98,eG 110 109,eG 109 101,eG 108 101,eG 107 101,eG 106 101,eG 109 109,eG 108 109,eG 107 109,eG 106 109,eG 105 106,eG 106 106,eG 107 106,eG 108 106,eG 109 106,eG 110 106,eG 111 106,eG 105 109,eG 111 98,eG 106 99,eG 107 99,eG 110 108,eG 109 108,eG 111 100,eG 110 100,eG 109 100,eG 108 100,eG 107 100,eG 106 100,eG 108 108,eG 105 107,eG 106 107,eG 107 107,eG 108 107,eG 109 107,eG 110 107,eG 107 108,eG 106 108,eG 105 108,eG 108 99,eG 109 99,eG 110 99,eG 111 107,eG 114 99,eG 113 99,eG 112 99,eG 115 99,eG 116 107,eG 115 107,eG 114 107,eG 113 107,eG 112 107,eG 116 102,eG 116 99,eG 112 100,eG 116 106,eG 111 108,eG 112 108,eG 113 108,eG 114 108,eG 115 108,eG 116 108,eG 115 106,eG 114 106,eG 116 98,eG 115 98,eG 114 98,eG 113 98,eG 112 98,eG 113 106,eG 112 106,eG 113 100,eG 114 100,eG 115 100,eG 116 100,eG 116 105,eG 111 109,eG 112 109,eG 113 109,eG 114 109,eG 115 109,eG 116 109,eG 115 105,eG 114 105,eG 113 105,eG 112 105,eG 112 101,eG 116 97,eG 115 97,eG 114 97,eG 113 101,eG 114 101,eG 115 101,eG 116 101,eG 116 104,eG 115 104,eG 111 110,eG 112 110,eG 113 110,eG 114 110,eG 115 110,eG 116 110,eG 113 97,eG 112 97,eG 114 104,eG 113 104,eG 112 104,eG 112 102,eG 113 102,eG 114 102,eG 115 102,eG 116 103,eG 115 103,eG 114 103,eG 113 103,eG 112 103] E30
def en30:Me:=⟨hE E30,[sE,iE (nat_lit 132),iE (nat_lit 304),iE (nat_lit 218),cE],[iE (nat_lit 224),.bool false],hE E31⟩
theorem ep30:isOk (f117 en30.h en30.a (chkM en30))=true:=by kernel_rfl
def E32:List (List Val):=spE (nat_lit 225) [eG 114 104,eG 113 99,eG 112 99,eG 115 99,eG 114 111,eG 115 107,eG 114 107,eG 113 107,eG 112 107,eG 113 111,eG 112 111,eG 112 100,eG 111 111,eG 111 108,eG 112 108,eG 113 108,eG 114 108,eG 115 108,eG 112 103,eG 115 106,eG 114 106,eG 113 103,eG 115 98,eG 114 98,eG 113 98,eG 112 98,eG 113 106,eG 112 106,eG 113 100,eG 114 100,eG 115 100,eG 114 103,eG 115 103,eG 111 109,eG 112 109,eG 113 109,eG 114 109,eG 114 99,eG 115 102,eG 115 105,eG 114 105,eG 113 105,eG 112 105,eG 112 101,eG 114 102,eG 115 97,eG 114 97,eG 113 101,eG 114 101,eG 115 101,eG 113 102,eG 112 102,eG 115 104,eG 111 110,eG 112 110,eG 113 110,eG 114 110,eG 112 104,eG 113 104,eG 113 97,eG 112 97,eG 115 109,eG 116 110,eG 115 110,eG 116 104,eG 116 101,eG 116 97,eG 116 109,eG 116 103,eG 116 105,eG 116 100,eG 116 98,eG 116 108,eG 116 106,eG 116 99,eG 116 102,eG 116 107] E31
def en31:Me:=⟨hE E31,[sE,iE (nat_lit 225),iE (nat_lit 304),iE (nat_lit 262),cE],[iE (nat_lit 286),.bool false],hE E32⟩
theorem ep31:isOk (f117 en31.h en31.a (chkM en31))=true:=by kernel_rfl
def E33:List (List Val):=spE (nat_lit 287) [eG 116 97,eG 115 110,eG 115 111,eG 116 98,eG 116 99,eG 116 109,eG 116 103,eG 116 105,eG 116 100,eG 116 101,eG 116 108,eG 116 106,eG 116 110,eG 116 102,eG 116 107,eG 116 104] E32
def en32:Me:=⟨hE E32,[sE,iE (nat_lit 287),iE (nat_lit 304),iE (nat_lit 299),cE],[iE (nat_lit 291),.bool false],hE E33⟩
theorem ep32:isOk (f117 en32.h en32.a (chkM en32))=true:=by kernel_rfl
def E34:List (List Val):=spE (nat_lit 287) [eG 115 110,eG 115 111,eG 116 97] E33
def en33:Me:=⟨hE E33,[sE,iE (nat_lit 287),iE (nat_lit 291),cE],[],hE E34⟩
theorem ep33:isOk (f110 en33.h en33.a (chkM en33))=true:=by kernel_rfl
def E35:List (List Val):=spE (nat_lit 292) [eG 116 100,eG 116 101,eG 116 102,eG 116 103,eG 116 104,eG 116 105,eG 116 106,eG 116 107,eG 116 108,eG 116 109,eG 116 110] E34
def en34:Me:=⟨hE E34,[sE,iE (nat_lit 292),iE (nat_lit 304),cE],[],hE E35⟩
theorem ep34:isOk (f110 en34.h en34.a (chkM en34))=true:=by kernel_rfl
def E36:List (List Val):=spE (nat_lit 225) [eG 113 105,eG 113 99,eG 112 99,eG 112 97,eG 113 97,eG 113 104,eG 112 104,eG 113 107,eG 112 107,eG 113 111,eG 112 111,eG 112 100,eG 111 111,eG 111 108,eG 112 108,eG 113 108,eG 113 110,eG 112 110,eG 112 103,eG 111 110,eG 112 102,eG 113 103,eG 113 102,eG 114 98,eG 113 98,eG 112 98,eG 113 106,eG 112 106,eG 113 100,eG 114 100,eG 114 101,eG 113 101,eG 114 97,eG 111 109,eG 112 109,eG 113 109,eG 112 101,eG 114 99,eG 112 105,eG 114 102,eG 114 105,eG 115 105,eG 115 102,eG 114 109,eG 114 104,eG 115 97,eG 115 103,eG 114 103,eG 115 100,eG 115 101,eG 115 98,eG 114 106,eG 115 104,eG 115 106,eG 115 108,eG 114 108,eG 114 110,eG 114 107,eG 115 107,eG 114 111,eG 115 99] E35
def en35:Me:=⟨hE E35,[sE,iE (nat_lit 225),iE (nat_lit 286),iE (nat_lit 269),cE],[iE (nat_lit 264),.bool false],hE E36⟩
theorem ep35:isOk (f117 en35.h en35.a (chkM en35))=true:=by kernel_rfl
end
end Go.V
end
section
set_option maxRecDepth 1000000
set_option maxHeartbeats 0
namespace Go.V
noncomputable section
def E37:List (List Val):=spE (nat_lit 265) [eG 114 106,eG 114 111,eG 114 107,eG 114 109,eG 114 104,eG 114 105,eG 114 110,eG 114 103,eG 114 108,eG 115 97,eG 115 98,eG 115 101,eG 115 104,eG 115 106,eG 115 108,eG 115 100,eG 115 103,eG 115 102,eG 115 107,eG 115 105] E36
def en36:Me:=⟨hE E36,[sE,iE (nat_lit 265),iE (nat_lit 286),iE (nat_lit 270),cE],[iE (nat_lit 274),.bool false],hE E37⟩
theorem ep36:isOk (f117 en36.h en36.a (chkM en36))=true:=by kernel_rfl
def E38:List (List Val):=spE (nat_lit 265) [eG 114 103,eG 114 104,eG 114 105,eG 114 106,eG 114 107,eG 114 108,eG 114 109,eG 114 110,eG 114 111] E37
def en37:Me:=⟨hE E37,[sE,iE (nat_lit 265),iE (nat_lit 274),cE],[],hE E38⟩
theorem ep37:isOk (f110 en37.h en37.a (chkM en37))=true:=by kernel_rfl
def E39:List (List Val):=spE (nat_lit 276) [eG 115 99,eG 115 100,eG 115 101,eG 115 102,eG 115 103,eG 115 104,eG 115 105,eG 115 106,eG 115 107,eG 115 108] E38
def en38:Me:=⟨hE E38,[sE,iE (nat_lit 275),iE (nat_lit 286),cE],[],hE E39⟩
theorem ep38:isOk (f110 en38.h en38.a (chkM en38))=true:=by kernel_rfl
def E40:List (List Val):=spE (nat_lit 225) [eG 111 108,eG 112 105,eG 112 99,eG 112 97,eG 112 101,eG 111 109,eG 112 104,eG 112 98,eG 112 102,eG 111 110,eG 112 103,eG 112 100,eG 111 111,eG 112 106,eG 112 108,eG 113 108,eG 113 110,eG 112 110,eG 112 111,eG 113 111,eG 112 107,eG 113 103,eG 113 102,eG 114 98,eG 113 98,eG 113 107,eG 113 106,eG 113 105,eG 113 100,eG 114 100,eG 114 101,eG 113 101,eG 114 97,eG 113 104,eG 112 109,eG 113 109,eG 113 97,eG 114 99,eG 113 99] E39
def en39:Me:=⟨hE E39,[sE,iE (nat_lit 225),iE (nat_lit 264),iE (nat_lit 252),cE],[iE (nat_lit 238),.bool false],hE E40⟩
theorem ep39:isOk (f117 en39.h en39.a (chkM en39))=true:=by kernel_rfl
def E41:List (List Val):=spE (nat_lit 225) [eG 111 109,eG 111 111,eG 111 110,eG 111 108,eG 112 97,eG 112 101,eG 112 104,eG 112 98,eG 112 102,eG 112 99,eG 112 103,eG 112 100,eG 112 105] E40
def en40:Me:=⟨hE E40,[sE,iE (nat_lit 225),iE (nat_lit 238),iE (nat_lit 228),cE],[iE (nat_lit 229),.bool false],hE E41⟩
theorem ep40:isOk (f117 en40.h en40.a (chkM en40))=true:=by kernel_rfl
def E42:List (List Val):=spE (nat_lit 225) [eG 111 108,eG 111 109,eG 111 110,eG 111 111] E41
def en41:Me:=⟨hE E41,[sE,iE (nat_lit 225),iE (nat_lit 229),cE],[],hE E42⟩
theorem ep41:isOk (f110 en41.h en41.a (chkM en41))=true:=by kernel_rfl
def E43:List (List Val):=spE (nat_lit 230) [eG 112 98,eG 112 99,eG 112 100,eG 112 101,eG 112 102,eG 112 103,eG 112 104] E42
def en42:Me:=⟨hE E42,[sE,iE (nat_lit 230),iE (nat_lit 238),cE],[],hE E43⟩
theorem ep42:isOk (f110 en42.h en42.a (chkM en42))=true:=by kernel_rfl
def E44:List (List Val):=spE (nat_lit 239) [eG 113 100,eG 113 99,eG 113 97,eG 112 110,eG 112 111,eG 112 109,eG 112 107,eG 113 103,eG 113 102,eG 113 104,eG 113 98,eG 113 101,eG 112 108,eG 113 105,eG 113 106,eG 114 100,eG 114 101,eG 113 107,eG 114 97,eG 114 98,eG 113 111,eG 113 109,eG 113 110,eG 114 99,eG 113 108] E43
def en43:Me:=⟨hE E43,[sE,iE (nat_lit 239),iE (nat_lit 264),iE (nat_lit 251),cE],[iE (nat_lit 253),.bool false],hE E44⟩
theorem ep43:isOk (f117 en43.h en43.a (chkM en43))=true:=by kernel_rfl
def E45:List (List Val):=spE (nat_lit 254) [eG 113 107,eG 113 108,eG 113 109,eG 113 110,eG 113 111,eG 114 97,eG 114 98,eG 114 99,eG 114 100,eG 114 101] E44
def en44:Me:=⟨hE E44,[sE,iE (nat_lit 254),iE (nat_lit 264),cE],[],hE E45⟩
theorem ep44:isOk (f110 en44.h en44.a (chkM en44))=true:=by kernel_rfl
def E46:List (List Val):=spE (nat_lit 239) [eG 112 109,eG 112 108,eG 112 107,eG 112 110,eG 112 111,eG 113 100,eG 113 97,eG 113 103,eG 113 102,eG 113 104,eG 113 98,eG 113 101,eG 113 99] E45
def en45:Me:=⟨hE E45,[sE,iE (nat_lit 239),iE (nat_lit 253),iE (nat_lit 242),cE],[iE (nat_lit 242),.bool false],hE E46⟩
theorem ep45:isOk (f117 en45.h en45.a (chkM en45))=true:=by kernel_rfl
def E47:List (List Val):=spE (nat_lit 239) [eG 112 107,eG 112 108,eG 112 109] E46
def en46:Me:=⟨hE E46,[sE,iE (nat_lit 239),iE (nat_lit 242),cE],[],hE E47⟩
theorem ep46:isOk (f110 en46.h en46.a (chkM en46))=true:=by kernel_rfl
def E48:List (List Val):=spE (nat_lit 244) [eG 113 97,eG 113 98,eG 113 99,eG 113 100,eG 113 101,eG 113 102,eG 113 103,eG 113 104] E47
def en47:Me:=⟨hE E47,[sE,iE (nat_lit 243),iE (nat_lit 253),cE],[],hE E48⟩
theorem ep47:isOk (f110 en47.h en47.a (chkM en47))=true:=by kernel_rfl
def E49:List (List Val):=spE (nat_lit 132) [eG 107 98,eG 106 103,eG 107 103,eG 108 103,eG 108 99,eG 105 108,eG 106 108,eG 107 108,eG 107 107,eG 106 107,eG 107 111,eG 106 111,eG 105 111,eG 106 97,eG 107 97,eG 108 97,eG 105 107,eG 106 100,eG 107 100,eG 108 102,eG 107 102,eG 106 104,eG 107 104,eG 108 100,eG 107 99,eG 106 99,eG 105 109,eG 107 106,eG 106 106,eG 105 106,eG 106 109,eG 107 109,eG 106 102,eG 106 101,eG 107 110,eG 106 110,eG 105 110,eG 106 98,eG 107 101,eG 108 101,eG 105 105,eG 106 105,eG 107 105,eG 108 98,eG 108 104,eG 110 105,eG 111 105,eG 109 105,eG 108 105,eG 109 98,eG 110 98,eG 110 109,eG 109 101,eG 110 101,eG 111 101,eG 108 110,eG 109 109,eG 108 109,eG 109 110,eG 110 110,eG 111 97,eG 110 97,eG 109 97,eG 108 106,eG 109 106,eG 110 106,eG 111 106,eG 111 104,eG 111 98,eG 110 104,eG 109 104,eG 110 108,eG 109 108,eG 111 100,eG 110 100,eG 109 100,eG 111 99,eG 109 102,eG 110 102,eG 108 108,eG 111 102,eG 108 111,eG 109 111,eG 108 107,eG 109 107,eG 110 107,eG 110 111,eG 111 103,eG 110 103,eG 109 103] E48
def en48:Me:=⟨hE E48,[sE,iE (nat_lit 132),iE (nat_lit 224),iE (nat_lit 155),cE],[iE (nat_lit 176),.bool false],hE E49⟩
theorem ep48:isOk (f117 en48.h en48.a (chkM en48))=true:=by kernel_rfl
def E50:List (List Val):=spE (nat_lit 132) [eG 106 104,eG 106 103,eG 106 105,eG 105 105,eG 106 98,eG 105 108,eG 106 108,eG 105 110,eG 106 110,eG 106 107,eG 106 101,eG 106 102,eG 105 111,eG 106 97,eG 106 109,eG 105 106,eG 105 107,eG 106 100,eG 106 106,eG 105 109,eG 106 99,eG 106 111,eG 107 104,eG 108 100,eG 107 99,eG 107 102,eG 108 102,eG 107 106,eG 107 100,eG 108 97,eG 107 97,eG 107 109,eG 107 98,eG 107 111,eG 107 110,eG 107 107,eG 107 108,eG 108 99,eG 107 101,eG 108 101,eG 108 103,eG 107 103] E49
def en49:Me:=⟨hE E49,[sE,iE (nat_lit 132),iE (nat_lit 176),iE (nat_lit 143),cE],[iE (nat_lit 153),.bool false],hE E50⟩
theorem ep49:isOk (f117 en49.h en49.a (chkM en49))=true:=by kernel_rfl
def E51:List (List Val):=spE (nat_lit 132) [eG 105 105,eG 105 107,eG 105 106,eG 105 108,eG 106 98,eG 106 104,eG 106 108,eG 105 110,eG 106 110,eG 106 107,eG 106 101,eG 106 102,eG 105 111,eG 106 97,eG 106 109,eG 106 105,eG 106 103] E50
def en50:Me:=⟨hE E50,[sE,iE (nat_lit 132),iE (nat_lit 153),iE (nat_lit 137),cE],[iE (nat_lit 135),.bool false],hE E51⟩
theorem ep50:isOk (f117 en50.h en50.a (chkM en50))=true:=by kernel_rfl
def E52:List (List Val):=spE (nat_lit 133) [eG 105 106,eG 105 107] E51
def en51:Me:=⟨hE E51,[sE,iE (nat_lit 132),iE (nat_lit 135),cE],[],hE E52⟩
theorem ep51:isOk (f110 en51.h en51.a (chkM en51))=true:=by kernel_rfl
def E53:List (List Val):=spE (nat_lit 136) [eG 106 97,eG 106 99,eG 105 109,eG 105 110,eG 106 100,eG 106 98,eG 106 101,eG 106 102,eG 105 111,eG 106 103,eG 106 109,eG 106 105,eG 106 107,eG 106 110,eG 106 106,eG 106 108,eG 106 104] E52
def en52:Me:=⟨hE E52,[sE,iE (nat_lit 136),iE (nat_lit 153),iE (nat_lit 148),cE],[iE (nat_lit 145),.bool false],hE E53⟩
theorem ep52:isOk (f117 en52.h en52.a (chkM en52))=true:=by kernel_rfl
def E54:List (List Val):=spE (nat_lit 146) [eG 106 104,eG 106 105,eG 106 106,eG 106 107,eG 106 108,eG 106 109,eG 106 110] E53
def en53:Me:=⟨hE E53,[sE,iE (nat_lit 146),iE (nat_lit 153),cE],[],hE E54⟩
theorem ep53:isOk (f110 en53.h en53.a (chkM en53))=true:=by kernel_rfl
end
end Go.V
end
section
set_option maxRecDepth 1000000
set_option maxHeartbeats 0
namespace Go.V
noncomputable section
def E55:List (List Val):=spE (nat_lit 136) [eG 105 109,eG 105 110,eG 105 111,eG 106 97,eG 106 98,eG 106 99,eG 106 100,eG 106 101,eG 106 102] E54
def en54:Me:=⟨hE E54,[sE,iE (nat_lit 136),iE (nat_lit 145),cE],[],hE E55⟩
theorem ep54:isOk (f110 en54.h en54.a (chkM en54))=true:=by kernel_rfl
def E56:List (List Val):=spE (nat_lit 154) [eG 107 98,eG 107 105,eG 107 99,eG 107 102,eG 107 103,eG 107 104,eG 107 100,eG 107 101,eG 107 97,eG 107 106,eG 107 109,eG 107 111,eG 107 110,eG 107 107,eG 107 108,eG 108 99,eG 108 97,eG 108 101,eG 108 103,eG 108 102,eG 108 100] E55
def en55:Me:=⟨hE E55,[sE,iE (nat_lit 154),iE (nat_lit 176),iE (nat_lit 159),cE],[iE (nat_lit 163),.bool false],hE E56⟩
theorem ep55:isOk (f117 en55.h en55.a (chkM en55))=true:=by kernel_rfl
def E57:List (List Val):=spE (nat_lit 154) [eG 107 97,eG 107 98,eG 107 99,eG 107 100,eG 107 101,eG 107 102,eG 107 103,eG 107 104,eG 107 105] E56
def en56:Me:=⟨hE E56,[sE,iE (nat_lit 154),iE (nat_lit 163),cE],[],hE E57⟩
theorem ep56:isOk (f110 en56.h en56.a (chkM en56))=true:=by kernel_rfl
def E58:List (List Val):=spE (nat_lit 164) [eG 107 107,eG 107 108,eG 107 109,eG 107 110,eG 107 111,eG 108 97,eG 108 98,eG 108 99,eG 108 100,eG 108 101,eG 108 102,eG 108 103] E57
def en57:Me:=⟨hE E57,[sE,iE (nat_lit 164),iE (nat_lit 176),cE],[],hE E58⟩
theorem ep57:isOk (f110 en57.h en57.a (chkM en57))=true:=by kernel_rfl
def E59:List (List Val):=spE (nat_lit 177) [eG 109 108,eG 110 99,eG 109 105,eG 108 105,eG 109 98,eG 110 98,eG 109 99,eG 109 101,eG 110 101,eG 109 103,eG 108 110,eG 109 109,eG 108 109,eG 109 110,eG 109 107,eG 108 107,eG 110 97,eG 109 97,eG 108 106,eG 109 106,eG 109 111,eG 108 111,eG 108 108,eG 109 102,eG 109 100,eG 109 104,eG 110 100,eG 110 102,eG 111 100,eG 110 108,eG 110 104,eG 111 99,eG 111 98,eG 110 105,eG 111 104,eG 111 102,eG 111 106,eG 110 106,eG 111 97,eG 110 110,eG 110 107,eG 110 111,eG 111 103,eG 110 103,eG 111 101,eG 110 109,eG 111 105] E58
def en58:Me:=⟨hE E58,[sE,iE (nat_lit 177),iE (nat_lit 224),iE (nat_lit 210),cE],[iE (nat_lit 204),.bool false],hE E59⟩
theorem ep58:isOk (f117 en58.h en58.a (chkM en58))=true:=by kernel_rfl
def E60:List (List Val):=spE (nat_lit 205) [eG 111 97,eG 110 108,eG 110 104,eG 110 109,eG 110 103,eG 110 105,eG 110 111,eG 110 107,eG 110 110,eG 110 106,eG 111 98,eG 111 106,eG 111 102,eG 111 104,eG 111 103,eG 111 100,eG 111 101,eG 111 99] E59
def en59:Me:=⟨hE E59,[sE,iE (nat_lit 205),iE (nat_lit 224),iE (nat_lit 209),cE],[iE (nat_lit 215),.bool false],hE E60⟩
theorem ep59:isOk (f117 en59.h en59.a (chkM en59))=true:=by kernel_rfl
def E61:List (List Val):=spE (nat_lit 216) [eG 111 99,eG 111 100,eG 111 101,eG 111 102,eG 111 103,eG 111 104,eG 111 105,eG 111 106] E60
def en60:Me:=⟨hE E60,[sE,iE (nat_lit 216),iE (nat_lit 224),cE],[],hE E61⟩
theorem ep60:isOk (f110 en60.h en60.a (chkM en60))=true:=by kernel_rfl
def E62:List (List Val):=spE (nat_lit 205) [eG 110 103,eG 110 104,eG 110 105,eG 110 106,eG 110 107,eG 110 108,eG 110 109,eG 110 110,eG 110 111,eG 111 97] E61
def en61:Me:=⟨hE E61,[sE,iE (nat_lit 205),iE (nat_lit 215),cE],[],hE E62⟩
theorem ep61:isOk (f110 en61.h en61.a (chkM en61))=true:=by kernel_rfl
def E63:List (List Val):=spE (nat_lit 177) [eG 108 107,eG 108 108,eG 108 106,eG 108 105,eG 108 109,eG 110 98,eG 109 99,eG 109 101,eG 110 101,eG 109 103,eG 108 110,eG 109 109,eG 109 108,eG 109 110,eG 109 107,eG 109 98,eG 110 97,eG 109 97,eG 109 105,eG 109 106,eG 109 111,eG 108 111,eG 110 99] E62
def en62:Me:=⟨hE E62,[sE,iE (nat_lit 177),iE (nat_lit 204),iE (nat_lit 189),cE],[iE (nat_lit 181),.bool false],hE E63⟩
theorem ep62:isOk (f117 en62.h en62.a (chkM en62))=true:=by kernel_rfl
def E64:List (List Val):=spE (nat_lit 177) [eG 108 105,eG 108 106,eG 108 107,eG 108 108] E63
def en63:Me:=⟨hE E63,[sE,iE (nat_lit 177),iE (nat_lit 181),cE],[],hE E64⟩
theorem ep63:isOk (f110 en63.h en63.a (chkM en63))=true:=by kernel_rfl
def E65:List (List Val):=spE (nat_lit 182) [eG 108 110,eG 108 111,eG 109 97,eG 109 98,eG 109 103,eG 110 101,eG 109 109,eG 109 108,eG 109 110,eG 109 107,eG 110 98,eG 110 97,eG 109 101,eG 109 105,eG 109 106,eG 109 111,eG 109 99] E64
def en64:Me:=⟨hE E64,[sE,iE (nat_lit 182),iE (nat_lit 204),iE (nat_lit 192),cE],[iE (nat_lit 185),.bool false],hE E65⟩
theorem ep64:isOk (f117 en64.h en64.a (chkM en64))=true:=by kernel_rfl
def E66:List (List Val):=spE (nat_lit 0) [] E65
def en65:Me:=⟨hE E65,[sE,iE (nat_lit 182),iE (nat_lit 185),cE],[],hE E66⟩
theorem ep65:isOk (f110 en65.h en65.a (chkM en65))=true:=by kernel_rfl
def E67:List (List Val):=spE (nat_lit 186) [eG 109 99,eG 109 100,eG 109 101,eG 109 108,eG 109 110,eG 109 107,eG 110 98,eG 110 97,eG 109 103,eG 109 105,eG 109 106,eG 109 111,eG 109 109,eG 110 99,eG 109 102,eG 110 101] E66
def en66:Me:=⟨hE E66,[sE,iE (nat_lit 186),iE (nat_lit 204),iE (nat_lit 194),cE],[iE (nat_lit 188),.bool false],hE E67⟩
theorem ep66:isOk (f117 en66.h en66.a (chkM en66))=true:=by kernel_rfl
def E68:List (List Val):=spE (nat_lit 0) [] E67
def en67:Me:=⟨hE E67,[sE,iE (nat_lit 186),iE (nat_lit 188),cE],[],hE E68⟩
theorem ep67:isOk (f110 en67.h en67.a (chkM en67))=true:=by kernel_rfl
def E69:List (List Val):=spE (nat_lit 189) [eG 109 106,eG 109 104,eG 109 107,eG 109 102,eG 109 108,eG 109 103,eG 109 105,eG 109 109,eG 109 111,eG 110 97,eG 110 99,eG 110 98,eG 110 101,eG 109 110] E68
def en68:Me:=⟨hE E68,[sE,iE (nat_lit 189),iE (nat_lit 204),iE (nat_lit 198),cE],[iE (nat_lit 196),.bool false],hE E69⟩
theorem ep68:isOk (f117 en68.h en68.a (chkM en68))=true:=by kernel_rfl
def E70:List (List Val):=spE (nat_lit 189) [eG 109 102,eG 109 103,eG 109 104,eG 109 105,eG 109 106,eG 109 107,eG 109 108] E69
def en69:Me:=⟨hE E69,[sE,iE (nat_lit 189),iE (nat_lit 196),cE],[],hE E70⟩
theorem ep69:isOk (f110 en69.h en69.a (chkM en69))=true:=by kernel_rfl
def E71:List (List Val):=spE (nat_lit 197) [eG 109 110,eG 109 111,eG 110 97,eG 110 98,eG 110 99,eG 110 100,eG 110 101] E70
def en70:Me:=⟨hE E70,[sE,iE (nat_lit 197),iE (nat_lit 204),cE],[],hE E71⟩
theorem ep70:isOk (f110 en70.h en70.a (chkM en70))=true:=by kernel_rfl
def m110:FT:=memoF f110 [en3,en5,en6,en10,en11,en13,en14,en18,en19,en21,en22,en25,en26,en28,en29,en33,en34,en37,en38,en41,en42,en44,en46,en47,en51,en53,en54,en56,en57,en60,en61,en63,en65,en67,en69,en70]
theorem om110:FO EN 110 m110:=FO.memo o110 (mcons ep3 (mcons ep5 (mcons ep6 (mcons ep10 (mcons ep11 (mcons ep13 (mcons ep14 (mcons ep18 (mcons ep19 (mcons ep21 (mcons ep22 (mcons ep25 (mcons ep26 (mcons ep28 (mcons ep29 (mcons ep33 (mcons ep34 (mcons ep37 (mcons ep38 (mcons ep41 (mcons ep42 (mcons ep44 (mcons ep46 (mcons ep47 (mcons ep51 (mcons ep53 (mcons ep54 (mcons ep56 (mcons ep57 (mcons ep60 (mcons ep61 (mcons ep63 (mcons ep65 (mcons ep67 (mcons ep69 (mcons ep70 mnil))))))))))))))))))))))))))))))))))))
def m117:FT:=memoF f117 [en0,en1,en2,en4,en7,en8,en9,en12,en15,en16,en17,en20,en23,en24,en27,en30,en31,en32,en35,en36,en39,en40,en43,en45,en48,en49,en50,en52,en55,en58,en59,en62,en64,en66,en68]
theorem om117:FO EN 117 m117:=FO.memo o117 (mcons ep0 (mcons ep1 (mcons ep2 (mcons ep4 (mcons ep7 (mcons ep8 (mcons ep9 (mcons ep12 (mcons ep15 (mcons ep16 (mcons ep17 (mcons ep20 (mcons ep23 (mcons ep24 (mcons ep27 (mcons ep30 (mcons ep31 (mcons ep32 (mcons ep35 (mcons ep36 (mcons ep39 (mcons ep40 (mcons ep43 (mcons ep45 (mcons ep48 (mcons ep49 (mcons ep50 (mcons ep52 (mcons ep55 (mcons ep58 (mcons ep59 (mcons ep62 (mcons ep64 (mcons ep66 (mcons ep68 mnil)))))))))))))))))))))))))))))))))))
end
end Go.V
end
section
set_option maxRecDepth 100000
namespace Go.V
noncomputable section
def t63 (self:FT):List Ce:=[⟨110,ci m110⟩,⟨113,cn f113⟩,⟨115,cn f115⟩,⟨117,ci m117⟩,⟨63,ci self⟩,⟨34,c34⟩]
def g63:FT→FT:=fun self=>fun p s k=>hd s fun a0 s0=>
 hd s0 fun a1 s1=>
 hd s1 fun a2 s2=>
 hd s2 fun a3 s3=>
 hd s3 fun a4 s4=>
 nl s4<|
 jn 0 (fun j5=>
 lp 5 fuel (fun r6 v7 v8 v9 v10 v11 p12=>
 jn 5 (fun j13=>
 ksb v8 v7 fun v14=>
 kle v14 q51 fun v15=>
 kif v15
 (ci m110 p12 [a0,v7,v8,a4] fun v16 p17=>
 k [] p17)
 (keq false .i v9 q32 fun v18=>
 kif v18
 (.no)
 (knt v10 fun v19=>
 jn 1 (fun j20 => kif v19
 (.no)
 (j20 v9 p12)) fun v21 p22=>
 cn f113 p22 [a0,v7,v8,a4] fun v23 p24=>
 kex v23 0 fun v25=>
 kex v23 1 fun v26=>
 keq false .i v26 q48 fun v27=>
 jn 2 (fun j28 => kif v27
 (.no)
 (j28 v25 v26 p24)) fun v29 v30 p31=>
 jn 1 (fun j32=>gdK v10 true (j32 v11 p31) (j32 .undef p31)) fun v33 p34=>
 kpk v10 v33 q43 fun v35=>
 jn 2 (fun j36=>gdK v35 true (keq false .i v30 q44 fun v37=>
 j36 v30 v37 p34) (j36 .undef .undef p34)) fun v38 v39 p40=>
 kpk v35 v39 q43 fun v41=>
 jn 0 (fun j42 => kif v41
 (cn f115 p40 [a0,v7,v8,a4] fun v43 p44=>
 kif v43
 (k [] p44)
 (j42 p44))
 (j42 p40)) fun p45=>
 kgt v7 q32 fun v46=>
 jn 13 (fun j47=>gdK v46 true (ksb v7 q44 fun v48=>
 kia 6 a0 v48 fun v49=>
 kla (prt [] p45) 6 v49 fun v50=>
 kia 6 a0 v29 fun v51=>
 kla (prt [] p45) 6 v51 fun v52=>
 kcv (t63 self) p45 a4 [v50,v52] fun v53 p54=>
 klt v53 q32 fun v55=>
 knt v55 fun v56=>
 j47 a4 a0 v7 v48 v49 v50 a0 v29 v51 v52 v53 v55 v56 p54) (j47 .undef .undef .undef .undef .undef .undef .undef .undef .undef .undef .undef .undef .undef p45)) fun v57 v58 v59 v60 v61 v62 v63 v64 v65 v66 v67 v68 v69 p70=>
 kpk v46 v69 q43 fun v71=>
 kif v71
 (.no)
 (ci m117 p70 [a0,v7,v8,v29,a4] fun v72 p73=>
 kex v72 0 fun v74=>
 kex v72 1 fun v75=>
 ksb v74 v7 fun v76=>
 ksb v8 v74 fun v77=>
 kar .quo v14 q41 fun v78=>
 klt v76 v77 fun v79=>
 jn 3 (fun j80 => kif v79
 (kge v76 v78 fun v81=>
 ci self p73 [a0,v7,v74,v21,a4] fun v82 p83=>
 kad v74 q44 fun v84=>
 j80 v84 v8 v81 p83)
 (kge v77 v78 fun v85=>
 kad v74 q44 fun v86=>
 ci self p73 [a0,v86,v8,v21,a4] fun v87 p88=>
 j80 v7 v74 v85 p88)) fun v89 v90 v91 p92=>
 j13 v89 v90 v21 v91 v75 p92)))) fun v93 v94 v95 v96 v97 p98=>
 r6 v93 v94 v95 v96 v97 p98) a1 a2 a3 q53 q53 p) fun p99=>
 k [] p99
def f63:FT:=rcF depth g63
theorem o63:FO EN 63 f63:=FO.rc (fun self h=>fe 5 (T:=t63 self) (tc (ci_ok om110) (tc (cn_ok o113) (tc (cn_ok o115) (tc (ci_ok om117) (tc (ci_ok h) (tc c34_ok tnil)))))) [some [],some [1,2,3,10,11],some [1,2,3,10,11],none,none,some [3],some [13,14],some [],none,none,some [1,2,10]] (by kernel_rfl) fun p s k=>by kernel_rfl) depth
def f33:FT:=fun p s k=>hd s fun a0 s0=>
 hd s0 fun a1 s1=>
 nl s1<|
 kln a0 fun v2=>
 kci .u64 v2 fun v3=>
 cc f64 p [v3] fun v4 p5=>
 ci f63 p5 [a0,q32,v2,v4,a1] fun v6 p7=>
 k [] p7
theorem o33:FO EN 33 f33:=fe 2 (tc (cc_ok o64) (tc (ci_ok o63) tnil)) [] (by kernel_rfl) fun p s k=>by kernel_rfl
def f35:FT:=fun p s k=>hd s fun a0 s0=>
 nl s0<|
 kln a0 fun v1=>
 klt v1 q48 fun v2=>
 kif v2
 (k [a0] p)
 (jn 0 (fun j3=>
 lp 1 fuel (fun r4 v5 p6=>
 kln a0 fun v7=>
 klt v5 v7 fun v8=>
 kif v8
 (jn 1 (fun j9=>
 kia 6 a0 v5 fun v10=>
 kla (prt [] p6) 6 v10 fun v11=>
 ksb v5 q44 fun v12=>
 kia 6 a0 v12 fun v13=>
 kla (prt [] p6) 6 v13 fun v14=>
 kea false [(0,.s),(1,.s),(2,.s),(3,.s),(4,.s),(5,.s)] v11 v14 fun v15=>
 kif v15
 (ksl 6 a0 (some v5) none none fun v16=>
 jn 1 (fun j17=>
 lp 2 fuel (fun r18 v19 v20 p21=>
 kln v16 fun v22=>
 klt v20 v22 fun v23=>
 kif v23
 (kia 6 v16 v20 fun v24=>
 kla (prt [] p21) 6 v24 fun v25=>
 ksb v20 q44 fun v26=>
 kia 6 v16 v26 fun v27=>
 kla (prt [] p21) 6 v27 fun v28=>
 kea true [(0,.s),(1,.s),(2,.s),(3,.s),(4,.s),(5,.s)] v25 v28 fun v29=>
 jn 1 (fun j30 => kif v29
 (kia 6 v16 v20 fun v31=>
 kla p21 6 v31 fun v32=>
 kia 6 a0 v19 fun v33=>
 kst p21 6 v33 v32 fun p34=>
 kad v19 q44 fun v35=>
 j30 v35 p34)
 (j30 v19 p21)) fun v36 p37=>
 kad v20 q44 fun v38=>
 r18 v36 v38 p37)
 (j17 v19 p21)) v5 q44 p6) fun v39 p40=>
 ksl 6 a0 (some v39) none none fun v41=>
 ksw mth p40 (.clear q27 (.c v41)) fun v42 p43=>
 ksl 6 a0 none (some v39) none fun v44=>
 k [v44] p43)
 (j9 v5 p6)) fun v45 p46=>
 kad v45 q44 fun v47=>
 r4 v47 p46)
 (j3 p6)) q44 p) fun p48=>
 k [a0] p48)
theorem o35:FO EN 35 f35:=fe 1 tnil [none,some [],some [3],none,some [3],none,some [3],some [3,5],none,none,some [3]] (by kernel_rfl) fun p s k=>by kernel_rfl
def f12:FT:=fun p s k=>hd s fun a0 s0=>
 nl s0<|
 cn f32 p [a0] fun v1 p2=>
 ci f33 p2 [v1,q54] fun v3 p4=>
 cn f35 p4 [v1] fun v5 p6=>
 kln v5 fun v7=>
 kln v5 fun v8=>
 ksl 6 v5 none (some v7) (some v8) fun v9=>
 k [v9] p6
theorem o12:FO EN 12 f12:=fe 1 (tc (cn_ok o32) (tc (ci_ok o33) (tc (cn_ok o35) tnil))) [] (by kernel_rfl) fun p s k=>by kernel_rfl
def f141:FT:=fun p s k=>hd s fun a0 s0=>
 nl s0<|
 kls a0 fun v1=>
 klt v1 q44 fun v2=>
 jn 3 (fun j3=>gdK v2 false (kls a0 fun v4=>
 kgt v4 q38 fun v5=>
 j3 a0 v4 v5 p) (j3 .undef .undef .undef p)) fun v6 v7 v8 p9=>
 kpk v2 q53 v8 fun v10=>
 kif v10
 (k [q55] p9)
 (kls a0 fun v11=>
 jn 0 (fun j12=>
 lp 1 fuel (fun r13 v14 p15=>
 klt v14 v11 fun v16=>
 kif v16
 (kix a0 v14 fun v17=>
 klt v17 q56 fun v18=>
 jn 4 (fun j19=>gdK v18 false (kix a0 v14 fun v20=>
 kgt v20 q57 fun v21=>
 j19 a0 v14 v20 v21 p15) (j19 .undef .undef .undef .undef p15)) fun v22 v23 v24 v25 p26=>
 kpk v18 q53 v25 fun v27=>
 jn 5 (fun j28=>gdK v27 true (kix a0 v14 fun v29=>
 klt v29 q58 fun v30=>
 j28 a0 v14 v29 v30 v30 p26) (j28 .undef .undef .undef .undef .undef p26)) fun v31 v32 v33 v34 v35 p36=>
 jn 4 (fun j37=>gdK v35 false (kix a0 v14 fun v38=>
 kgt v38 q59 fun v39=>
 j37 a0 v14 v38 v39 p36) (j37 .undef .undef .undef .undef p36)) fun v40 v41 v42 v43 p44=>
 jn 1 (fun j45=>gdK v27 true (kpk v35 q53 v43 fun v46=>
 j45 v46 p44) (j45 .undef p44)) fun v47 p48=>
 kpk v27 v47 q43 fun v49=>
 kif v49
 (k [q55] p48)
 (kad v14 q44 fun v50=>
 r13 v50 p48))
 (j12 p15)) q32 p9) fun p51=>
 k [q32] p51)
theorem o141:FO EN 141 f141:=fe 1 tnil [none,some [],some [14],none,none,none] (by kernel_rfl) fun p s k=>by kernel_rfl
def f89:FT:=fun p s k=>hd s fun a0 s0=>
 nl s0<|
 kln a0 fun v1=>
 jn 0 (fun j2=>
 lp 1 fuel (fun r3 v4 p5=>
 klt v4 v1 fun v6=>
 kif v6
 (kia 1 a0 v4 fun v7=>
 kld p5 v7 fun v8=>
 cn f141 p5 [v8] fun v9 p10=>
 keq true .i v9 q32 fun v11=>
 kif v11
 (k [v9] p10)
 (kad v4 q44 fun v12=>
 r3 v12 p10))
 (j2 p5)) q32 p) fun p13=>
 k [q32] p13
theorem o89:FO EN 89 f89:=fe 1 (tc (cn_ok o141) tnil) [some [],some [8],none,none,none] (by kernel_rfl) fun p s k=>by kernel_rfl
def f45:FT:=fun p s k=>hd s fun a0 s0=>
 nl s0<|
 kbx p 3 a0 fun v1 p2=>
 kfa 0 v1 fun v3=>
 kfa 0 v3 fun v4=>
 kld p2 v4 fun v5=>
 kfa 0 v1 fun v6=>
 kfa 1 v6 fun v7=>
 kld p2 v7 fun v8=>
 kfa 2 v1 fun v9=>
 kld p2 v9 fun v10=>
 kbs p2 3 q25 [(0,1,v5),(1,1,v8),(2,1,v10)] fun v11 p12=>
 cn f89 p12 [v11] fun v13 p14=>
 k [v13] p14
theorem o45:FO EN 45 f45:=fe 1 (tc (cn_ok o89) tnil) [] (by kernel_rfl) fun p s k=>by kernel_rfl
def f166:FT:=fun p s k=>hd s fun a0 s0=>
 nl s0<|
 kbx p 2 a0 fun v1 p2=>
 kfa 0 v1 fun v3=>
 kld p2 v3 fun v4=>
 kfa 1 v1 fun v5=>
 kld p2 v5 fun v6=>
 kbs p2 2 q1 [(0,1,v4),(1,1,v6)] fun v7 p8=>
 cn f89 p8 [v7] fun v9 p10=>
 k [v9] p10
theorem o166:FO EN 166 f166:=fe 1 (tc (cn_ok o89) tnil) [] (by kernel_rfl) fun p s k=>by kernel_rfl
def f121:FT:=fun p s k=>hd s fun a0 s0=>
 nl s0<|
 kbx p 3 a0 fun v1 p2=>
 kfa 2 v1 fun v3=>
 kld p2 v3 fun v4=>
 keq false .s v4 q60 fun v5=>
 kif v5
 (kfa 0 v1 fun v6=>
 kla p2 2 v6 fun v7=>
 cn f166 p2 [v7] fun v8 p9=>
 k [v8] p9)
 (kla p2 3 v1 fun v10=>
 cn f45 p2 [v10] fun v11 p12=>
 k [v11] p12)
theorem o121:FO EN 121 f121:=fe 1 (tc (cn_ok o166) (tc (cn_ok o45) tnil)) [none] (by kernel_rfl) fun p s k=>by kernel_rfl
def f68:FT:=fun p s k=>hd s fun a0 s0=>
 nl s0<|
 kbx p 6 a0 fun v1 p2=>
 kfa 0 v1 fun v3=>
 kla p2 3 v3 fun v4=>
 cn f45 p2 [v4] fun v5 p6=>
 keq true .i v5 q32 fun v7=>
 kif v7
 (k [v5] p6)
 (kfa 3 v1 fun v8=>
 kla p6 3 v8 fun v9=>
 cn f121 p6 [v9] fun v10 p11=>
 k [v10] p11)
theorem o68:FO EN 68 f68:=fe 1 (tc (cn_ok o45) (tc (cn_ok o121) tnil)) [none] (by kernel_rfl) fun p s k=>by kernel_rfl
def f167:FT:=fun p s k=>hd s fun a0 s0=>
 nl s0<|
 ken false .p a0 .nilp fun v1=>
 kif v1
 (k [q32] p)
 (knc mth a0 fun v2=>
 kfa 8 v2 fun v3=>
 kld p v3 fun v4=>
 k [v4] p)
theorem o167:FO EN 167 f167:=fe 1 tnil [none] (by kernel_rfl) fun p s k=>by kernel_rfl
def f123:FT:=fun p s k=>hd s fun a0 s0=>
 nl s0<|
 kbx p 2 a0 fun v1 p2=>
 kfa 1 v1 fun v3=>
 kld p2 v3 fun v4=>
 cn f167 p2 [v4] fun v5 p6=>
 k [v5] p6
theorem o123:FO EN 123 f123:=fe 1 (tc (cn_ok o167) tnil) [] (by kernel_rfl) fun p s k=>by kernel_rfl
def f70:FT:=fun p s k=>hd s fun a0 s0=>
 nl s0<|
 kbx p 4 a0 fun v1 p2=>
 kfa 0 v1 fun v3=>
 kfa 0 v3 fun v4=>
 kla p2 2 v4 fun v5=>
 cn f123 p2 [v5] fun v6 p7=>
 k [v6] p7
theorem o70:FO EN 70 f70:=fe 1 (tc (cn_ok o123) tnil) [] (by kernel_rfl) fun p s k=>by kernel_rfl
end
end Go.V
end
