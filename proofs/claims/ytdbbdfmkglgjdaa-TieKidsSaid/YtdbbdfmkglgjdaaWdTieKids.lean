/- The law TieKids, a closed one that reaches slices.Insert: the evaluator tells true, piece by piece. -/
import Derived.Test.YtdbbdfmkglgjdaaWdTk0
import Derived.Test.YtdbbdfmkglgjdaaWdTk1
import Derived.Test.YtdbbdfmkglgjdaaWdTk2
import Derived.Test.YtdbbdfmkglgjdaaWdTk3
import Derived.Test.YtdbbdfmkglgjdaaWdTk4
import Derived.Test.YtdbbdfmkglgjdaaWdTk5
import Derived.Test.YtdbbdfmkglgjdaaWdTk6
namespace Go.Proofs.Ytdbbdfmkglgjdaa.Bt
open Go.Ab
set_option maxRecDepth 1000000
theorem q4 : aeval (env SF) 199994 (lf (rt (rt (rt (rt c_pleachlaw19_TieKids))))) t4 h4 = some (.normal, t13, h13) := aeval_seq (n := 199993) q4a (aeval_out (n := 199992) (aeval_round (n := 199991) q4r0 (aeval_round (n := 199990) q4r1 (aeval_round (n := 199989) q4r2 (aeval_round (n := 199988) q4r3 (aeval_round (n := 199987) q4r4 (aeval_round (n := 199986) q4r5 (aeval_round (n := 199985) q4r6 q4x))))))))
theorem q18 : aeval (env SF) 199988 (lf (rt (rt (rt (rt (rt (rt (rt (rt (rt (rt c_pleachlaw19_TieKids))))))))))) t18 h18 = some (.normal, t26, h26) := aeval_seq (n := 199987) q18a (aeval_out (n := 199986) (aeval_round (n := 199985) q18r0 (aeval_round (n := 199984) q18r1 (aeval_round (n := 199983) q18r2 (aeval_round (n := 199982) q18r3 (aeval_round (n := 199981) q18r4 (aeval_round (n := 199980) q18r5 q18x)))))))
theorem e32 : EndsT (env SF) 199982 (rt (rt (rt (rt (rt (rt (rt (rt (rt (rt (rt (rt (rt (rt (rt (rt (rt c_pleachlaw19_TieKids))))))))))))))))) t32 h32 [.tmp 0] := last_ok (fok SF) (m := 220) (by kernel_rfl) (by kernel_rfl) (by kernel_rfl) (by kernel_rfl)
theorem e31 : EndsT (env SF) 199983 (rt (rt (rt (rt (rt (rt (rt (rt (rt (rt (rt (rt (rt (rt (rt (rt c_pleachlaw19_TieKids)))))))))))))))) t31 h31 [.tmp 0] := ends_seq (n := 199982) q31 e32
theorem e30 : EndsT (env SF) 199984 (rt (rt (rt (rt (rt (rt (rt (rt (rt (rt (rt (rt (rt (rt (rt c_pleachlaw19_TieKids))))))))))))))) t30 h30 [.tmp 0] := ends_seq (n := 199983) q30 e31
theorem e29 : EndsT (env SF) 199985 (rt (rt (rt (rt (rt (rt (rt (rt (rt (rt (rt (rt (rt (rt c_pleachlaw19_TieKids)))))))))))))) t29 h29 [.tmp 0] := ends_seq (n := 199984) q29 e30
theorem e28 : EndsT (env SF) 199986 (rt (rt (rt (rt (rt (rt (rt (rt (rt (rt (rt (rt (rt c_pleachlaw19_TieKids))))))))))))) t28 h28 [.tmp 0] := ends_seq (n := 199985) q28 e29
theorem e27 : EndsT (env SF) 199987 (rt (rt (rt (rt (rt (rt (rt (rt (rt (rt (rt (rt c_pleachlaw19_TieKids)))))))))))) t27 h27 [.tmp 0] := ends_seq (n := 199986) q27 e28
theorem e26 : EndsT (env SF) 199988 (rt (rt (rt (rt (rt (rt (rt (rt (rt (rt (rt c_pleachlaw19_TieKids))))))))))) t26 h26 [.tmp 0] := ends_seq (n := 199987) q26 e27
theorem e18 : EndsT (env SF) 199989 (rt (rt (rt (rt (rt (rt (rt (rt (rt (rt c_pleachlaw19_TieKids)))))))))) t18 h18 [.tmp 0] := ends_seq (n := 199988) q18 e26
theorem e17 : EndsT (env SF) 199990 (rt (rt (rt (rt (rt (rt (rt (rt (rt c_pleachlaw19_TieKids))))))))) t17 h17 [.tmp 0] := ends_seq (n := 199989) q17 e18
theorem e16 : EndsT (env SF) 199991 (rt (rt (rt (rt (rt (rt (rt (rt c_pleachlaw19_TieKids)))))))) t16 h16 [.tmp 0] := ends_seq (n := 199990) q16 e17
theorem e15 : EndsT (env SF) 199992 (rt (rt (rt (rt (rt (rt (rt c_pleachlaw19_TieKids))))))) t15 h15 [.tmp 0] := ends_seq (n := 199991) q15 e16
theorem e14 : EndsT (env SF) 199993 (rt (rt (rt (rt (rt (rt c_pleachlaw19_TieKids)))))) t14 h14 [.tmp 0] := ends_seq (n := 199992) q14 e15
theorem e13 : EndsT (env SF) 199994 (rt (rt (rt (rt (rt c_pleachlaw19_TieKids))))) t13 h13 [.tmp 0] := ends_seq (n := 199993) q13 e14
theorem e4 : EndsT (env SF) 199995 (rt (rt (rt (rt c_pleachlaw19_TieKids)))) t4 h4 [.tmp 0] := ends_seq (n := 199994) q4 e13
theorem e3 : EndsT (env SF) 199996 (rt (rt (rt c_pleachlaw19_TieKids))) t3 h3 [.tmp 0] := ends_seq (n := 199995) q3 e4
theorem e2 : EndsT (env SF) 199997 (rt (rt c_pleachlaw19_TieKids)) t2 h2 [.tmp 0] := ends_seq (n := 199996) q2 e3
theorem e1 : EndsT (env SF) 199998 (rt c_pleachlaw19_TieKids) t1 h1 [.tmp 0] := ends_seq (n := 199997) q1 e2
theorem e0 : EndsT (env SF) 199999 c_pleachlaw19_TieKids t0 h0 [.tmp 0] := ends_seq (n := 199998) q0 e1
theorem ends_true {E : Env} {n f : Nat} (h : tellsTrue (acall E n f [] AHeap.empty) = true) : EndsV (callV E f [] AHeap.empty) fun v _ => v = .bool true := by
  unfold tellsTrue at h
  split at h
  · rename_i H1 hH
    exact ⟨_, _, callV_iff.2 ⟨_, hH⟩, rfl⟩
  · cases h
theorem init_t : t0 = List.replicate 220 undefA := by kernel_rfl
theorem init_h : h0 = AHeap.empty := by kernel_rfl
theorem e_all : EndsT (env SF) 199999 c_pleachlaw19_TieKids (List.replicate 220 undefA) AHeap.empty [.tmp 0] := init_t ▸ init_h ▸ e0
theorem law_TieKids : EndsV (callV (env SF) 8 [] AHeap.empty) fun v _ => v = .bool true :=
  ends_true (n := 199999 + 1) (ends_call (n := 199999) (f := 8) (fn := af_pleachlaw19_TieKids) rfl rfl e_all)
end Go.Proofs.Ytdbbdfmkglgjdaa.Bt
