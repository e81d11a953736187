/- The law TieAll. -/
import Derived.Test.YtdbbdfmkglgjdaaPmKids
import Derived.Test.YtdbbdfmkglgjdaaPdTieAll
set_option linter.unusedVariables false
set_option linter.unusedSimpArgs false
namespace Go.Proofs.Ytdbbdfmkglgjdaa.Pi
open Go.Ab
set_option maxRecDepth 100000
theorem z3y {H:z3} (v:AV) (A:List Int) (hA:rdI .u8 H v=some A) (hl:A.length≤maxLen) (rA:∀ n ∈ A,IntKind.u8.min≤n∧n≤IntKind.u8.max) (hc:capOk v=true)
  (w:AV) (B:List Int) (hB:rdI .u8 H w=some B) (hlB:B.length≤maxLen) (rB:∀ n ∈ B,IntKind.u8.min≤n∧n≤IntKind.u8.max) (hcB:capOk w=true)
  (n:Int) (hn:IntKind.u8.min≤n∧n≤IntKind.u8.max) (m:Int) (hm:IntKind.u16.min≤m∧m≤IntKind.u16.max) :
  vL (zM (env S1) 3 [v,w,.int .u8 n,.int .u16 m] H) fun v _=>v=.bool true:=by
 refine zcp pe1 (by decide) (zbQ (A:=A) (B:=B) rA rB hn hm) (RL.cons (RV.ints hA hc) (RL.cons (RV.ints hB hcB) (RL.cons RV.int (RL.cons RV.int RL.nil'))))
end Go.Proofs.Ytdbbdfmkglgjdaa.Pi
