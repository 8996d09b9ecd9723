/- Texts of this proof, one behind the other. Conditions: those in each theorem. -/
import Derived.Test.YtiacalnkmnckjaaGreatDoorTprQ14
import Derived.Test.YtiacalnkmnckjaaGreatDoorTprQ8
import Derived.Test.YtiacalnkmnckjaaGreatDoorTprQ11
set_option linter.unusedVariables false
set_option linter.unusedSimpArgs false
section
namespace Go.Proofs.YtiacalnkmnckjaaGreatDoor
open Go.RowKit Go.As
theorem rnone_at {b:Bool} (e:Ex) (cs:List Value) (w:World) (hbd:wgt e≤1099511627776) (hat:ExAt (·<w.heap.size) w e cs) (hb:exNone e=b):
  Calls Tryz.prog 198 #[.agg cs.toArray] w fun r w'=>r = .returned (.bool b)∧Below w.heap.size w w':=by
 have:=rnone_any e cs w hbd hat
 rw [hb] at this
 exact this
theorem st2_yes {deep:Nat} {usn:List UInt8} {e:Ex} {ubody uels:List St} (hg:nameB usn=true) (hf:flatB ubody uels=true) (he:exNone e=true):stT deep (.mk 2 usn e ubody uels)=some (margT deep++([108,111,99,107,32]++(usn++[59,10]))):=by
 unfold flatB at hf
 simp only [Bool.and_eq_true,decide_eq_true_eq] at hf
 unfold stT
 rw [if_neg (show ¬ (2:Int)=1 by decide),if_pos (show (2:Int)=2 from rfl)]
 rw [if_pos ⟨hg,he,hf.1,hf.2⟩]
theorem st2_no {deep:Nat} {usn:List UInt8} {e:Ex} {ubody uels:List St} (h:nameB usn=false∨exNone e=false∨flatB ubody uels=false):stT deep (.mk 2 usn e ubody uels)=none:=by
 unfold stT
 rw [if_neg (show ¬ (2:Int)=1 by decide),if_pos (show (2:Int)=2 from rfl)]
 rcases h with hn | hn | hn
 · rw [if_neg (fun h=>by rw [hn] at h;exact absurd h.1 (by decide))]
 · rw [if_neg (fun h=>by rw [hn] at h;exact absurd h.2.1 (by decide))]
 · rw [if_neg (fun h=>by unfold flatB at hn;simp [h.2.2.1,h.2.2.2] at hn)]
open Go.Sy in
set_option maxRecDepth 100000 in
theorem rstmt2_of (usn:List UInt8) (uop uty ubits:Int) (uen:List UInt8) (uek:List Ex) (ubody uels:List St) (uba ula uea:Option Addr) (ubc ulc uec:Nat) (deep:Nat) (w:World) (hdeep:deep≤32) (hbd:swt (St.mk 2 usn (Ex.mk uop uty ubits uen uek) ubody uels)≤1000000000000) (hB:stB (St.mk 2 usn (Ex.mk uop uty ubits uen uek) ubody uels)≤1000000000000) (hR:stR (St.mk 2 usn (Ex.mk uop uty ubits uen uek) ubody uels)) (uhe:ExAt (·<w.heap.size) w (Ex.mk uop uty ubits uen uek) [.int .u8 uop,.int .u8 uty,.int .u64 ubits,.string (str uen),.slice uea uek.length uec]):
  Calls Tryz.prog 129 #[.agg #[.int .i64 2,.string (str usn),.int .u8 uop,.int .u8 uty,.int .u64 ubits,.string (str uen),.slice uea uek.length uec,.slice uba ubody.length ubc,.slice ula uels.length ulc],.int .i64 (deep:Int)] w (fun v w'=>∃ s,v=Ending.returned (.tuple #[.string (str s),.bool (stT deep (St.mk 2 usn (Ex.mk uop uty ubits uen uek) ubody uels)).isSome])∧(∀ t,stT deep (St.mk 2 usn (Ex.mk uop uty ubits uen uek) ubody uels)=some t→s=t)∧Below w.heap.size w w'):=by
 refine rstmt_front 2 usn uop uty ubits uen uek ubody uels uba ula uea ubc ulc uec deep w hdeep hbd hB hR uhe (fun γ0 hγ0=>?_)
 simp only [stB] at hB
 simp only [swt] at hbd
 have hm:=margT_len deep
 rcases Bool.eq_false_or_eq_true (nameB usn) with hg | hg
 ·
  rcases Bool.eq_false_or_eq_true (exNone (Ex.mk uop uty ubits uen uek)) with he | he <;> rcases Bool.eq_false_or_eq_true (flatB ubody uels) with hf | hf
  all_goals
   refine gS 9 (x := .bool (nameB usn)) (.bool true) (by rw [hg]) ?_
   refine gS 11 (x := .bool (flatB ubody uels)) (_) (congrArg Value.bool hf) ?_
   refine rs [] 20 9 ?_
   refine good_draw sy_mixed (by kernel_rfl) ?_
   refine q_run [63] 60 ?_
   refine qV (.string (str (margT deep++[108,111,99,107,32]))) (S:=(do eqGuard .add 9 (.tmp 62) (.const (.string (str [108,111,99,107,32]))) (.string (str (margT deep))) (.string (str ([108,111,99,107,32])));binOp .add 9 (.string (str (margT deep))) (.string (str ([108,111,99,107,32]))))) (fun W _=>cat_str _ _ (margT deep) ([108,111,99,107,32]) (by first | omega | (simp only [List.length_append,List.length_cons,List.length_nil];omega)) W) ?_
   refine q_run [66] 60 ?_
   refine qV (.string (str (margT deep++[108,111,99,107,32]++usn))) (S:=(do eqGuard .add 9 (.tmp 63) (.tmp 65) (.string (str (margT deep++[108,111,99,107,32]))) (.string (str (usn)));binOp .add 9 (.string (str (margT deep++[108,111,99,107,32]))) (.string (str (usn))))) (fun W _=>cat_str _ _ (margT deep++[108,111,99,107,32]) (usn) (by first | omega | (simp only [List.length_append,List.length_cons,List.length_nil];omega)) W) ?_
   refine q_run [67] 60 ?_
   refine qV (.string (str (margT deep++[108,111,99,107,32]++usn++[59,10]))) (S:=(do eqGuard .add 9 (.tmp 66) (.const (.string (str [59,10]))) (.string (str (margT deep++[108,111,99,107,32]++usn))) (.string (str ([59,10])));binOp .add 9 (.string (str (margT deep++[108,111,99,107,32]++usn))) (.string (str ([59,10]))))) (fun W _=>cat_str _ _ (margT deep++[108,111,99,107,32]++usn) ([59,10]) (by first | omega | (simp only [List.length_append,List.length_cons,List.length_nil];omega)) W) ?_
   refine q_run [] 60 ?_
   refine qB [.agg #[.int .u8 uop,.int .u8 uty,.int .u64 ubits,.string (str uen),.slice uea uek.length uec]] (.bool _) (fun W hk=>rnone_at (Ex.mk uop uty ubits uen uek) [.int .u8 uop,.int .u8 uty,.int .u64 ubits,.string (str uen),.slice uea uek.length uec] W (by omega) (uhe.keep hk (fun k h=>Nat.lt_of_lt_of_le h hk.size)) he) ?_
   refine q_run [] 60 ?_
   refine qE ?_
   refine rs [] 60 9 ?_
   first
   | (have hv:stT deep (St.mk 2 usn (Ex.mk uop uty ubits uen uek) ubody uels)=some (margT deep++[108,111,99,107,32]++usn++[59,10]):=by rw [st2_yes (usn:=usn) hg hf he];simp
      exact gR (.tuple #[.string (str (margT deep++[108,111,99,107,32]++usn++[59,10])),.bool true]) (fun W hk=>⟨margT deep++[108,111,99,107,32]++usn++[59,10],by rw [hv];rfl,(fun t ht=>by rw [hv] at ht;injection ht),hk.below⟩))
   | (have hv:stT deep (St.mk 2 usn (Ex.mk uop uty ubits uen uek) ubody uels)=none:=st2_no (by first | exact .inr (.inl he) | exact .inr (.inr hf))
      exact gR (.tuple #[.string (str (margT deep++[108,111,99,107,32]++usn++[59,10])),.bool false]) (fun W hk=>⟨margT deep++[108,111,99,107,32]++usn++[59,10],by rw [hv];rfl,(fun t ht=>by rw [hv] at ht;cases ht),hk.below⟩))
 refine gS 9 (x := .bool (nameB usn)) (.bool false) (by rw [hg]) ?_
 refine rs [] 20 9 ?_
 refine good_draw sy_mixed (by kernel_rfl) ?_
 refine q_run [63] 60 ?_
 refine qV (.string (str (margT deep++[108,111,99,107,32]))) (S:=(do eqGuard .add 9 (.tmp 62) (.const (.string (str [108,111,99,107,32]))) (.string (str (margT deep))) (.string (str ([108,111,99,107,32])));binOp .add 9 (.string (str (margT deep))) (.string (str ([108,111,99,107,32]))))) (fun W _=>cat_str _ _ (margT deep) ([108,111,99,107,32]) (by first | omega | (simp only [List.length_append,List.length_cons,List.length_nil];omega)) W) ?_
 refine q_run [66] 60 ?_
 refine qV (.string (str (margT deep++[108,111,99,107,32]++usn))) (S:=(do eqGuard .add 9 (.tmp 63) (.tmp 65) (.string (str (margT deep++[108,111,99,107,32]))) (.string (str (usn)));binOp .add 9 (.string (str (margT deep++[108,111,99,107,32]))) (.string (str (usn))))) (fun W _=>cat_str _ _ (margT deep++[108,111,99,107,32]) (usn) (by first | omega | (simp only [List.length_append,List.length_cons,List.length_nil];omega)) W) ?_
 refine q_run [67] 60 ?_
 refine qV (.string (str (margT deep++[108,111,99,107,32]++usn++[59,10]))) (S:=(do eqGuard .add 9 (.tmp 66) (.const (.string (str [59,10]))) (.string (str (margT deep++[108,111,99,107,32]++usn))) (.string (str ([59,10])));binOp .add 9 (.string (str (margT deep++[108,111,99,107,32]++usn))) (.string (str ([59,10]))))) (fun W _=>cat_str _ _ (margT deep++[108,111,99,107,32]++usn) ([59,10]) (by first | omega | (simp only [List.length_append,List.length_cons,List.length_nil];omega)) W) ?_
 refine q_run [] 60 ?_
 refine qE ?_
 refine rs [] 60 9 ?_
 have hv:stT deep (St.mk 2 usn (Ex.mk uop uty ubits uen uek) ubody uels)=none:=st2_no (.inl hg)
 exact gR (.tuple #[.string (str (margT deep++[108,111,99,107,32]++usn++[59,10])),.bool false]) (fun W hk=>⟨margT deep++[108,111,99,107,32]++usn++[59,10],by rw [hv];rfl,(fun t ht=>by rw [hv] at ht;cases ht),hk.below⟩)
theorem st3_yes {deep:Nat} {usn:List UInt8} {e:Ex} {ubody uels:List St} (hg:nameB usn=true) (hf:flatB ubody uels=true) (he:exNone e=true):stT deep (.mk 3 usn e ubody uels)=some (margT deep++([117,110,108,111,99,107,32]++(usn++[59,10]))):=by
 unfold flatB at hf
 simp only [Bool.and_eq_true,decide_eq_true_eq] at hf
 unfold stT
 rw [if_neg (show ¬ (3:Int)=1 by decide),if_neg (show ¬ (3:Int)=2 by decide),if_pos (show (3:Int)=3 from rfl)]
 rw [if_pos ⟨hg,he,hf.1,hf.2⟩]
theorem st3_no {deep:Nat} {usn:List UInt8} {e:Ex} {ubody uels:List St} (h:nameB usn=false∨exNone e=false∨flatB ubody uels=false):stT deep (.mk 3 usn e ubody uels)=none:=by
 unfold stT
 rw [if_neg (show ¬ (3:Int)=1 by decide),if_neg (show ¬ (3:Int)=2 by decide),if_pos (show (3:Int)=3 from rfl)]
 rcases h with hn | hn | hn
 · rw [if_neg (fun h=>by rw [hn] at h;exact absurd h.1 (by decide))]
 · rw [if_neg (fun h=>by rw [hn] at h;exact absurd h.2.1 (by decide))]
 · rw [if_neg (fun h=>by unfold flatB at hn;simp [h.2.2.1,h.2.2.2] at hn)]
open Go.Sy in
set_option maxRecDepth 100000 in
theorem rstmt3_of (usn:List UInt8) (uop uty ubits:Int) (uen:List UInt8) (uek:List Ex) (ubody uels:List St) (uba ula uea:Option Addr) (ubc ulc uec:Nat) (deep:Nat) (w:World) (hdeep:deep≤32) (hbd:swt (St.mk 3 usn (Ex.mk uop uty ubits uen uek) ubody uels)≤1000000000000) (hB:stB (St.mk 3 usn (Ex.mk uop uty ubits uen uek) ubody uels)≤1000000000000) (hR:stR (St.mk 3 usn (Ex.mk uop uty ubits uen uek) ubody uels)) (uhe:ExAt (·<w.heap.size) w (Ex.mk uop uty ubits uen uek) [.int .u8 uop,.int .u8 uty,.int .u64 ubits,.string (str uen),.slice uea uek.length uec]):
  Calls Tryz.prog 129 #[.agg #[.int .i64 3,.string (str usn),.int .u8 uop,.int .u8 uty,.int .u64 ubits,.string (str uen),.slice uea uek.length uec,.slice uba ubody.length ubc,.slice ula uels.length ulc],.int .i64 (deep:Int)] w (fun v w'=>∃ s,v=Ending.returned (.tuple #[.string (str s),.bool (stT deep (St.mk 3 usn (Ex.mk uop uty ubits uen uek) ubody uels)).isSome])∧(∀ t,stT deep (St.mk 3 usn (Ex.mk uop uty ubits uen uek) ubody uels)=some t→s=t)∧Below w.heap.size w w'):=by
 refine rstmt_front 3 usn uop uty ubits uen uek ubody uels uba ula uea ubc ulc uec deep w hdeep hbd hB hR uhe (fun γ0 hγ0=>?_)
 simp only [stB] at hB
 simp only [swt] at hbd
 have hm:=margT_len deep
 rcases Bool.eq_false_or_eq_true (nameB usn) with hg | hg
 ·
  rcases Bool.eq_false_or_eq_true (exNone (Ex.mk uop uty ubits uen uek)) with he | he <;> rcases Bool.eq_false_or_eq_true (flatB ubody uels) with hf | hf
  all_goals
   refine gS 9 (x := .bool (nameB usn)) (.bool true) (by rw [hg]) ?_
   refine gS 11 (x := .bool (flatB ubody uels)) (_) (congrArg Value.bool hf) ?_
   refine rs [] 26 9 ?_
   refine good_draw sy_mixed (by kernel_rfl) ?_
   refine q_run [80] 60 ?_
   refine qV (.string (str (margT deep++[117,110,108,111,99,107,32]))) (S:=(do eqGuard .add 9 (.tmp 79) (.const (.string (str [117,110,108,111,99,107,32]))) (.string (str (margT deep))) (.string (str ([117,110,108,111,99,107,32])));binOp .add 9 (.string (str (margT deep))) (.string (str ([117,110,108,111,99,107,32]))))) (fun W _=>cat_str _ _ (margT deep) ([117,110,108,111,99,107,32]) (by first | omega | (simp only [List.length_append,List.length_cons,List.length_nil];omega)) W) ?_
   refine q_run [83] 60 ?_
   refine qV (.string (str (margT deep++[117,110,108,111,99,107,32]++usn))) (S:=(do eqGuard .add 9 (.tmp 80) (.tmp 82) (.string (str (margT deep++[117,110,108,111,99,107,32]))) (.string (str (usn)));binOp .add 9 (.string (str (margT deep++[117,110,108,111,99,107,32]))) (.string (str (usn))))) (fun W _=>cat_str _ _ (margT deep++[117,110,108,111,99,107,32]) (usn) (by first | omega | (simp only [List.length_append,List.length_cons,List.length_nil];omega)) W) ?_
   refine q_run [84] 60 ?_
   refine qV (.string (str (margT deep++[117,110,108,111,99,107,32]++usn++[59,10]))) (S:=(do eqGuard .add 9 (.tmp 83) (.const (.string (str [59,10]))) (.string (str (margT deep++[117,110,108,111,99,107,32]++usn))) (.string (str ([59,10])));binOp .add 9 (.string (str (margT deep++[117,110,108,111,99,107,32]++usn))) (.string (str ([59,10]))))) (fun W _=>cat_str _ _ (margT deep++[117,110,108,111,99,107,32]++usn) ([59,10]) (by first | omega | (simp only [List.length_append,List.length_cons,List.length_nil];omega)) W) ?_
   refine q_run [] 60 ?_
   refine qB [.agg #[.int .u8 uop,.int .u8 uty,.int .u64 ubits,.string (str uen),.slice uea uek.length uec]] (.bool _) (fun W hk=>rnone_at (Ex.mk uop uty ubits uen uek) [.int .u8 uop,.int .u8 uty,.int .u64 ubits,.string (str uen),.slice uea uek.length uec] W (by omega) (uhe.keep hk (fun k h=>Nat.lt_of_lt_of_le h hk.size)) he) ?_
   refine q_run [] 60 ?_
   refine qE ?_
   refine rs [] 60 9 ?_
   first
   | (have hv:stT deep (St.mk 3 usn (Ex.mk uop uty ubits uen uek) ubody uels)=some (margT deep++[117,110,108,111,99,107,32]++usn++[59,10]):=by rw [st3_yes (usn:=usn) hg hf he];simp
      exact gR (.tuple #[.string (str (margT deep++[117,110,108,111,99,107,32]++usn++[59,10])),.bool true]) (fun W hk=>⟨margT deep++[117,110,108,111,99,107,32]++usn++[59,10],by rw [hv];rfl,(fun t ht=>by rw [hv] at ht;injection ht),hk.below⟩))
   | (have hv:stT deep (St.mk 3 usn (Ex.mk uop uty ubits uen uek) ubody uels)=none:=st3_no (by first | exact .inr (.inl he) | exact .inr (.inr hf))
      exact gR (.tuple #[.string (str (margT deep++[117,110,108,111,99,107,32]++usn++[59,10])),.bool false]) (fun W hk=>⟨margT deep++[117,110,108,111,99,107,32]++usn++[59,10],by rw [hv];rfl,(fun t ht=>by rw [hv] at ht;cases ht),hk.below⟩))
 refine gS 9 (x := .bool (nameB usn)) (.bool false) (by rw [hg]) ?_
 refine rs [] 26 9 ?_
 refine good_draw sy_mixed (by kernel_rfl) ?_
 refine q_run [80] 60 ?_
 refine qV (.string (str (margT deep++[117,110,108,111,99,107,32]))) (S:=(do eqGuard .add 9 (.tmp 79) (.const (.string (str [117,110,108,111,99,107,32]))) (.string (str (margT deep))) (.string (str ([117,110,108,111,99,107,32])));binOp .add 9 (.string (str (margT deep))) (.string (str ([117,110,108,111,99,107,32]))))) (fun W _=>cat_str _ _ (margT deep) ([117,110,108,111,99,107,32]) (by first | omega | (simp only [List.length_append,List.length_cons,List.length_nil];omega)) W) ?_
 refine q_run [83] 60 ?_
 refine qV (.string (str (margT deep++[117,110,108,111,99,107,32]++usn))) (S:=(do eqGuard .add 9 (.tmp 80) (.tmp 82) (.string (str (margT deep++[117,110,108,111,99,107,32]))) (.string (str (usn)));binOp .add 9 (.string (str (margT deep++[117,110,108,111,99,107,32]))) (.string (str (usn))))) (fun W _=>cat_str _ _ (margT deep++[117,110,108,111,99,107,32]) (usn) (by first | omega | (simp only [List.length_append,List.length_cons,List.length_nil];omega)) W) ?_
 refine q_run [84] 60 ?_
 refine qV (.string (str (margT deep++[117,110,108,111,99,107,32]++usn++[59,10]))) (S:=(do eqGuard .add 9 (.tmp 83) (.const (.string (str [59,10]))) (.string (str (margT deep++[117,110,108,111,99,107,32]++usn))) (.string (str ([59,10])));binOp .add 9 (.string (str (margT deep++[117,110,108,111,99,107,32]++usn))) (.string (str ([59,10]))))) (fun W _=>cat_str _ _ (margT deep++[117,110,108,111,99,107,32]++usn) ([59,10]) (by first | omega | (simp only [List.length_append,List.length_cons,List.length_nil];omega)) W) ?_
 refine q_run [] 60 ?_
 refine qE ?_
 refine rs [] 60 9 ?_
 have hv:stT deep (St.mk 3 usn (Ex.mk uop uty ubits uen uek) ubody uels)=none:=st3_no (.inl hg)
 exact gR (.tuple #[.string (str (margT deep++[117,110,108,111,99,107,32]++usn++[59,10])),.bool false]) (fun W hk=>⟨margT deep++[117,110,108,111,99,107,32]++usn++[59,10],by rw [hv];rfl,(fun t ht=>by rw [hv] at ht;cases ht),hk.below⟩)
theorem st7_yes {deep:Nat} {usn:List UInt8} {e:Ex} {ubody uels:List St} (hg:Sy.bEqL usn []=true) (hf:flatB ubody uels=true) (he:exNone e=true):stT deep (.mk 7 usn e ubody uels)=some (margT deep++[115,107,105,112,59,10]):=by
 unfold flatB at hf
 simp only [Bool.and_eq_true,decide_eq_true_eq] at hf
 unfold stT
 rw [if_neg (show ¬ (7:Int)=1 by decide),if_neg (show ¬ (7:Int)=2 by decide),if_neg (show ¬ (7:Int)=3 by decide),if_neg (show ¬ (7:Int)=4 by decide),if_pos (show (7:Int)=7 from rfl)]
 rw [if_pos ⟨(bEq_nil usn).1 hg,he,hf.1,hf.2⟩]
theorem st7_no {deep:Nat} {usn:List UInt8} {e:Ex} {ubody uels:List St} (h:Sy.bEqL usn []=false∨exNone e=false∨flatB ubody uels=false):stT deep (.mk 7 usn e ubody uels)=none:=by
 unfold stT
 rw [if_neg (show ¬ (7:Int)=1 by decide),if_neg (show ¬ (7:Int)=2 by decide),if_neg (show ¬ (7:Int)=3 by decide),if_neg (show ¬ (7:Int)=4 by decide),if_pos (show (7:Int)=7 from rfl)]
 rcases h with hn | hn | hn
 · rw [if_neg (fun h=>by rw [(bEq_nil usn).2 h.1] at hn;cases hn)]
 · rw [if_neg (fun h=>by rw [hn] at h;exact absurd h.2.1 (by decide))]
 · rw [if_neg (fun h=>by unfold flatB at hn;simp [h.2.2.1,h.2.2.2] at hn)]
open Go.Sy in
set_option maxRecDepth 100000 in
theorem rstmt7_of (usn:List UInt8) (uop uty ubits:Int) (uen:List UInt8) (uek:List Ex) (ubody uels:List St) (uba ula uea:Option Addr) (ubc ulc uec:Nat) (deep:Nat) (w:World) (hdeep:deep≤32) (hbd:swt (St.mk 7 usn (Ex.mk uop uty ubits uen uek) ubody uels)≤1000000000000) (hB:stB (St.mk 7 usn (Ex.mk uop uty ubits uen uek) ubody uels)≤1000000000000) (hR:stR (St.mk 7 usn (Ex.mk uop uty ubits uen uek) ubody uels)) (uhe:ExAt (·<w.heap.size) w (Ex.mk uop uty ubits uen uek) [.int .u8 uop,.int .u8 uty,.int .u64 ubits,.string (str uen),.slice uea uek.length uec]):
  Calls Tryz.prog 129 #[.agg #[.int .i64 7,.string (str usn),.int .u8 uop,.int .u8 uty,.int .u64 ubits,.string (str uen),.slice uea uek.length uec,.slice uba ubody.length ubc,.slice ula uels.length ulc],.int .i64 (deep:Int)] w (fun v w'=>∃ s,v=Ending.returned (.tuple #[.string (str s),.bool (stT deep (St.mk 7 usn (Ex.mk uop uty ubits uen uek) ubody uels)).isSome])∧(∀ t,stT deep (St.mk 7 usn (Ex.mk uop uty ubits uen uek) ubody uels)=some t→s=t)∧Below w.heap.size w w'):=by
 refine rstmt_front 7 usn uop uty ubits uen uek ubody uels uba ula uea ubc ulc uec deep w hdeep hbd hB hR uhe (fun γ0 hγ0=>?_)
 simp only [stB] at hB
 simp only [swt] at hbd
 have hm:=margT_len deep
 rcases Bool.eq_false_or_eq_true (Sy.bEqL usn []) with hg | hg
 ·
  rcases Bool.eq_false_or_eq_true (exNone (Ex.mk uop uty ubits uen uek)) with he | he <;> rcases Bool.eq_false_or_eq_true (flatB ubody uels) with hf | hf
  all_goals
   refine gS 10 (x := .bool (Sy.bEqL usn [])) (.bool true) (by rw [hg]) ?_
   refine gS 11 (x := .bool (flatB ubody uels)) (_) (congrArg Value.bool hf) ?_
   refine rs [112] 60 9 ?_
   refine gC (margT deep) ([115,107,105,112,59,10]) (by first | omega | (simp only [List.length_append,List.length_cons,List.length_nil];omega)) ?_
   refine rk ?_
   refine gX [.agg #[.int .u8 uop,.int .u8 uty,.int .u64 ubits,.string (str uen),.slice uea uek.length uec]] (.bool _) (fun W hk=>rnone_at (Ex.mk uop uty ubits uen uek) [.int .u8 uop,.int .u8 uty,.int .u64 ubits,.string (str uen),.slice uea uek.length uec] W (by omega) (uhe.keep hk (fun k h=>Nat.lt_of_lt_of_le h hk.size)) he) ?_
   refine rk ?_
   refine rs [] 60 9 ?_
   first
   | (have hv:stT deep (St.mk 7 usn (Ex.mk uop uty ubits uen uek) ubody uels)=some (margT deep++[115,107,105,112,59,10]):=by rw [st7_yes (usn:=usn) hg hf he]
      exact gR (.tuple #[.string (str (margT deep++[115,107,105,112,59,10])),.bool true]) (fun W hk=>⟨margT deep++[115,107,105,112,59,10],by rw [hv];rfl,(fun t ht=>by rw [hv] at ht;injection ht),hk.below⟩))
   | (have hv:stT deep (St.mk 7 usn (Ex.mk uop uty ubits uen uek) ubody uels)=none:=st7_no (by first | exact .inr (.inl he) | exact .inr (.inr hf))
      exact gR (.tuple #[.string (str (margT deep++[115,107,105,112,59,10])),.bool false]) (fun W hk=>⟨margT deep++[115,107,105,112,59,10],by rw [hv];rfl,(fun t ht=>by rw [hv] at ht;cases ht),hk.below⟩))
 refine gS 10 (x := .bool (Sy.bEqL usn [])) (.bool false) (by rw [hg]) ?_
 refine rs [112] 60 9 ?_
 refine gC (margT deep) ([115,107,105,112,59,10]) (by first | omega | (simp only [List.length_append,List.length_cons,List.length_nil];omega)) ?_
 refine rk ?_
 refine rs [] 60 9 ?_
 have hv:stT deep (St.mk 7 usn (Ex.mk uop uty ubits uen uek) ubody uels)=none:=st7_no (.inl hg)
 exact gR (.tuple #[.string (str (margT deep++[115,107,105,112,59,10])),.bool false]) (fun W hk=>⟨margT deep++[115,107,105,112,59,10],by rw [hv];rfl,(fun t ht=>by rw [hv] at ht;cases ht),hk.below⟩)
end Go.Proofs.YtiacalnkmnckjaaGreatDoor
end
section
namespace Go.Proofs.YtiacalnkmnckjaaGreatDoor
open Go.RowKit Go.As
theorem sts_two (deep:Nat) (l:List St):(stsT deep l=none∧(stsT deep l).isSome=false)∨∃ t,stsT deep l=some t∧(stsT deep l).isSome=true:=by
 cases h:stsT deep l with
 | none=>exact .inl ⟨rfl,rfl⟩
 | some t=>exact .inr ⟨t,rfl,rfl⟩
theorem st5_no {deep:Nat} {usn:List UInt8} {e:Ex} {ubody uels:List St} (h:stsT (deep+1) ubody=none∨stsT (deep+1) uels=none∨ex32 e=none∨Sy.bEqL usn []=false):stT deep (.mk 5 usn e ubody uels)=none:=by
 unfold stT
 rw [if_neg (show ¬ (5:Int)=1 by decide),if_neg (show ¬ (5:Int)=2 by decide),if_neg (show ¬ (5:Int)=3 by decide),if_neg (show ¬ (5:Int)=4 by decide),if_neg (show ¬ (5:Int)=7 by decide),if_pos (show (5:Int)=5∨(5:Int)=6 by decide)]
 cases hb:stsT (deep+1) ubody with
 | none=>rfl
 | some tb=>
   cases hl:stsT (deep+1) uels with
   | none=>rfl
   | some tl=>
     cases he:ex32 e with
     | none=>rfl
     | some te=>
       rw [hb,hl,he] at h
       simp only
       rw [if_pos]
       rcases h with h | h | h | h
       · cases h
       · cases h
       · cases h
       · exact .inl (fun hn=>by rw [(bEq_nil usn).2 hn] at h;cases h)
theorem st5_flat {deep:Nat} {usn te tb tl:List UInt8} {e:Ex} {ubody uels:List St} (hg:Sy.bEqL usn []=true) (he:ex32 e=some te) (hb:stsT (deep+1) ubody=some tb) (hl:stsT (deep+1) uels=some tl) (hz:uels.length=0):stT deep (.mk 5 usn e ubody uels)=some (margT deep++([105,102,32]++(te++([32,123,10]++(tb++(margT deep++[125,10])))))):=by
 have hn:=(bEq_nil usn).1 hg
 unfold stT
 rw [if_neg (show ¬ (5:Int)=1 by decide),if_neg (show ¬ (5:Int)=2 by decide),if_neg (show ¬ (5:Int)=3 by decide),if_neg (show ¬ (5:Int)=4 by decide),if_neg (show ¬ (5:Int)=7 by decide),if_pos (show (5:Int)=5∨(5:Int)=6 by decide)]
 rw [hb,hl,he]
 simp only
 rw [if_neg (show ¬ (usn≠[]∨(5:Int)=6∧0<uels.length) from fun h=>h.elim (fun h=>h hn) (fun h=>absurd h.1 (by decide)))]
 rw [if_neg (show ¬ (5:Int)=6 by decide),if_neg (show ¬ 0<uels.length by omega)]
theorem st5_else {deep:Nat} {usn te tb tl:List UInt8} {e:Ex} {ubody uels:List St} (hg:Sy.bEqL usn []=true) (he:ex32 e=some te) (hb:stsT (deep+1) ubody=some tb) (hl:stsT (deep+1) uels=some tl) (hz:0<uels.length):stT deep (.mk 5 usn e ubody uels)=some (margT deep++([105,102,32]++(te++([32,123,10]++(tb++(margT deep++([125,32,101,108,115,101,32,123,10]++(tl++(margT deep++[125,10]))))))))):=by
 have hn:=(bEq_nil usn).1 hg
 unfold stT
 rw [if_neg (show ¬ (5:Int)=1 by decide),if_neg (show ¬ (5:Int)=2 by decide),if_neg (show ¬ (5:Int)=3 by decide),if_neg (show ¬ (5:Int)=4 by decide),if_neg (show ¬ (5:Int)=7 by decide),if_pos (show (5:Int)=5∨(5:Int)=6 by decide)]
 rw [hb,hl,he]
 simp only
 rw [if_neg (show ¬ (usn≠[]∨(5:Int)=6∧0<uels.length) from fun h=>h.elim (fun h=>h hn) (fun h=>absurd h.1 (by decide)))]
 rw [if_neg (show ¬ (5:Int)=6 by decide),if_pos hz]
open Go.Sy in
set_option maxRecDepth 100000 in
theorem rstmt5_of (N:Nat) (ih:RstC N) (usn:List UInt8) (uop uty ubits:Int) (uen:List UInt8) (uek:List Ex) (ubody uels:List St) (uba ula uea:Option Addr) (ubc ulc uec:Nat) (deep:Nat) (w:World) (hdeep:deep≤32) (hbd:swt (St.mk 5 usn (Ex.mk uop uty ubits uen uek) ubody uels)≤1000000000000) (hB:stB (St.mk 5 usn (Ex.mk uop uty ubits uen uek) ubody uels)≤1000000000000) (hR:stR (St.mk 5 usn (Ex.mk uop uty ubits uen uek) ubody uels)) (uhe:ExAt (·<w.heap.size) w (Ex.mk uop uty ubits uen uek) [.int .u8 uop,.int .u8 uty,.int .u64 ubits,.string (str uen),.slice uea uek.length uec]) (hN:swt (St.mk 5 usn (Ex.mk uop uty ubits uen uek) ubody uels)≤N) (ubx ulx:List Value) (uhbs:SlAt (·<w.heap.size) w uba ubody.length 9 ubx) (uhbt:StsAt (·<w.heap.size) w ubody ubx) (uhls:SlAt (·<w.heap.size) w ula uels.length 9 ulx) (uhlt:StsAt (·<w.heap.size) w uels ulx):
  Calls Tryz.prog 129 #[.agg #[.int .i64 5,.string (str usn),.int .u8 uop,.int .u8 uty,.int .u64 ubits,.string (str uen),.slice uea uek.length uec,.slice uba ubody.length ubc,.slice ula uels.length ulc],.int .i64 (deep:Int)] w (fun v w'=>∃ s,v=Ending.returned (.tuple #[.string (str s),.bool (stT deep (St.mk 5 usn (Ex.mk uop uty ubits uen uek) ubody uels)).isSome])∧(∀ t,stT deep (St.mk 5 usn (Ex.mk uop uty ubits uen uek) ubody uels)=some t→s=t)∧Below w.heap.size w w'):=by
 refine rstmt_front 5 usn uop uty ubits uen uek ubody uels uba ula uea ubc ulc uec deep w hdeep hbd hB hR uhe (fun γ0 hγ0=>?_)
 simp only [stB] at hB
 simp only [swt] at hbd hN
 obtain ⟨_,hRe,hRb,hRl⟩:=hR
 have hm:=margT_len deep
 have hwe:=wgt_pos (Ex.mk uop uty ubits uen uek)
 have hnl:=swts_len uels
 rcases Bool.eq_false_or_eq_true (Sy.bEqL usn []) with hg | hg <;> rcases ex_two (Ex.mk uop uty ubits uen uek) with ⟨he,h8⟩ | ⟨te,he,h8⟩ <;> rcases sts_two (deep+1) ubody with ⟨hb,b8⟩ | ⟨tb,hb,b8⟩ <;> rcases sts_two (deep+1) uels with ⟨hl,l8⟩ | ⟨tl,hl,l8⟩
 all_goals
  refine gS 10 (x := .bool (Sy.bEqL usn [])) (_) (congrArg Value.bool hg) ?_
  refine gS 8 (x := .int .i64 (exprE (Ex.mk uop uty ubits uen uek))) (_) (congrArg (Value.int .i64) h8) ?_
  refine rs [] 60 9 ?_
  refine gS 129 (x := .int .i64 (wrapF .i64 ((deep:Int)+1))) (.int .i64 ((deep+1:Nat):Int)) (by rw [wr64 (by omega) (by omega)];rfl) ?_
  refine gE [.slice uba ubody.length ubc,.int .i64 ((deep+1:Nat):Int)] (fun v=>∃ s,v = .tuple #[.string (str s),.bool (stsT (deep+1) ubody).isSome]∧∀ u,stsT (deep+1) ubody=some u→s=u) (fun W hk=>by
   have:=ih ubody uba ubody.length ubc ubx (deep+1) W rfl (by omega) (by omega) (by omega) (by omega) hRb ((uhbs.keep hk).mono (fun k h=>Nat.lt_of_lt_of_le h hk.size)) (StsAt_ls.1 (uhbt.keep hk (fun k h=>Nat.lt_of_lt_of_le h hk.size)))
   exact this.mono fun e w' ⟨s,h1,h2,h3⟩=>⟨_,h1,⟨s,rfl,h2⟩,h3⟩) ?_
  rintro v129 w129 ⟨s129,rfl,hs129⟩ hk129
  rw [b8]
  refine rk ?_
  refine gS 137 (x := .int .i64 (wrapF .i64 ((deep:Int)+1))) (.int .i64 ((deep+1:Nat):Int)) (by rw [wr64 (by omega) (by omega)];rfl) ?_
  refine gE [.slice ula uels.length ulc,.int .i64 ((deep+1:Nat):Int)] (fun v=>∃ s,v = .tuple #[.string (str s),.bool (stsT (deep+1) uels).isSome]∧∀ u,stsT (deep+1) uels=some u→s=u) (fun W hk=>by
   have:=ih uels ula uels.length ulc ulx (deep+1) W rfl (by omega) (by omega) (by omega) (by omega) hRl ((uhls.keep hk).mono (fun k h=>Nat.lt_of_lt_of_le h hk.size)) (StsAt_ls.1 (uhlt.keep hk (fun k h=>Nat.lt_of_lt_of_le h hk.size)))
   exact this.mono fun e w' ⟨s,h1,h2,h3⟩=>⟨_,h1,⟨s,rfl,h2⟩,h3⟩) ?_
  rintro v137 w137 ⟨s137,rfl,hs137⟩ hk137
  rw [l8]
  first
  | skip
    have hno:=(by first | exact .inl hb | exact .inr (.inl hl) | exact .inr (.inr (.inl he)) | exact .inr (.inr (.inr hg)):stsT (deep+1) ubody=none∨stsT (deep+1) uels=none∨ex32 (Ex.mk uop uty ubits uen uek)=none∨Sy.bEqL usn []=false)
    refine rs [] 60 9 ?_
    have hv:stT deep (St.mk 5 usn (Ex.mk uop uty ubits uen uek) ubody uels)=none:=st5_no (hno)
    exact gR (.tuple #[.string (str []),.bool false]) (fun W hk=>⟨[],by rw [hv];rfl,(fun t ht=>by rw [hv] at ht;cases ht),hk.below⟩)
  | skip
    have hte:=exT_len _ hRe (ex32_exT he)
    have hs129:=hs129 _ hb
    subst hs129
    have hl129:=stsT_len _ hRb hb
    have hs137:=hs137 _ hl
    subst hs137
    have hl137:=stsT_len _ hRl hl
    refine gS 7 (x := .string (str (exprS (Ex.mk uop uty ubits uen uek)))) (.string (str te)) (by unfold exprS;rw [he]) ?_
    refine rs [] 60 2 ?_
    rcases Nat.eq_zero_or_pos uels.length with hz | hz
    ·
     refine gK false (b:=intLt 0 (uels.length:Int)) (lt_f (by omega)) ?_
     refine rs [199] 60 0 ?_
     refine gC (margT deep) ([105,102,32]) (by first | omega | (simp only [List.length_append,List.length_cons,List.length_nil];omega)) ?_
     refine rs [201] 60 0 ?_
     refine gC (margT deep++[105,102,32]) (te) (by first | omega | (simp only [List.length_append,List.length_cons,List.length_nil];omega)) ?_
     refine rs [202] 60 0 ?_
     refine gC (margT deep++[105,102,32]++te) ([32,123,10]) (by first | omega | (simp only [List.length_append,List.length_cons,List.length_nil];omega)) ?_
     refine rs [204] 60 0 ?_
     refine gC (margT deep++[105,102,32]++te++[32,123,10]) (s129) (by first | omega | (simp only [List.length_append,List.length_cons,List.length_nil];omega)) ?_
     refine rs [206] 60 0 ?_
     refine gC (margT deep++[105,102,32]++te++[32,123,10]++s129) (margT deep) (by first | omega | (simp only [List.length_append,List.length_cons,List.length_nil];omega)) ?_
     refine rs [207] 60 0 ?_
     refine gC (margT deep++[105,102,32]++te++[32,123,10]++s129++margT deep) ([125,10]) (by first | omega | (simp only [List.length_append,List.length_cons,List.length_nil];omega)) ?_
     refine rs [] 60 9 ?_
     have hv:stT deep (St.mk 5 usn (Ex.mk uop uty ubits uen uek) ubody uels)=some (margT deep++[105,102,32]++te++[32,123,10]++s129++margT deep++[125,10]):=by rw [st5_flat hg he hb hl hz];simp
     exact gR (.tuple #[.string (str (margT deep++[105,102,32]++te++[32,123,10]++s129++margT deep++[125,10])),.bool true]) (fun W hk=>⟨margT deep++[105,102,32]++te++[32,123,10]++s129++margT deep++[125,10],by rw [hv];rfl,(fun t ht=>by rw [hv] at ht;injection ht),hk.below⟩)
    refine gK true (b:=intLt 0 (uels.length:Int)) (lt_t (by omega)) ?_
    refine rs [184] 60 0 ?_
    refine gC (margT deep) ([105,102,32]) (by first | omega | (simp only [List.length_append,List.length_cons,List.length_nil];omega)) ?_
    refine rs [186] 60 0 ?_
    refine gC (margT deep++[105,102,32]) (te) (by first | omega | (simp only [List.length_append,List.length_cons,List.length_nil];omega)) ?_
    refine rs [187] 60 0 ?_
    refine gC (margT deep++[105,102,32]++te) ([32,123,10]) (by first | omega | (simp only [List.length_append,List.length_cons,List.length_nil];omega)) ?_
    refine rs [189] 60 0 ?_
    refine gC (margT deep++[105,102,32]++te++[32,123,10]) (s129) (by first | omega | (simp only [List.length_append,List.length_cons,List.length_nil];omega)) ?_
    refine rs [191] 60 0 ?_
    refine gC (margT deep++[105,102,32]++te++[32,123,10]++s129) (margT deep) (by first | omega | (simp only [List.length_append,List.length_cons,List.length_nil];omega)) ?_
    refine rs [192] 60 0 ?_
    refine gC (margT deep++[105,102,32]++te++[32,123,10]++s129++margT deep) ([125,32,101,108,115,101,32,123,10]) (by first | omega | (simp only [List.length_append,List.length_cons,List.length_nil];omega)) ?_
    refine rs [194] 60 0 ?_
    refine gC (margT deep++[105,102,32]++te++[32,123,10]++s129++margT deep++[125,32,101,108,115,101,32,123,10]) (s137) (by first | omega | (simp only [List.length_append,List.length_cons,List.length_nil];omega)) ?_
    refine rs [196] 60 0 ?_
    refine gC (margT deep++[105,102,32]++te++[32,123,10]++s129++margT deep++[125,32,101,108,115,101,32,123,10]++s137) (margT deep) (by first | omega | (simp only [List.length_append,List.length_cons,List.length_nil];omega)) ?_
    refine rs [197] 60 0 ?_
    refine gC (margT deep++[105,102,32]++te++[32,123,10]++s129++margT deep++[125,32,101,108,115,101,32,123,10]++s137++margT deep) ([125,10]) (by first | omega | (simp only [List.length_append,List.length_cons,List.length_nil];omega)) ?_
    refine rs [] 60 9 ?_
    have hv:stT deep (St.mk 5 usn (Ex.mk uop uty ubits uen uek) ubody uels)=some (margT deep++[105,102,32]++te++[32,123,10]++s129++margT deep++[125,32,101,108,115,101,32,123,10]++s137++margT deep++[125,10]):=by rw [st5_else hg he hb hl hz];simp
    exact gR (.tuple #[.string (str (margT deep++[105,102,32]++te++[32,123,10]++s129++margT deep++[125,32,101,108,115,101,32,123,10]++s137++margT deep++[125,10])),.bool true]) (fun W hk=>⟨margT deep++[105,102,32]++te++[32,123,10]++s129++margT deep++[125,32,101,108,115,101,32,123,10]++s137++margT deep++[125,10],by rw [hv];rfl,(fun t ht=>by rw [hv] at ht;injection ht),hk.below⟩)
theorem st6_no {deep:Nat} {usn:List UInt8} {e:Ex} {ubody uels:List St} (h:stsT (deep+1) ubody=none∨stsT (deep+1) uels=none∨ex32 e=none∨Sy.bEqL usn []=false∨0<uels.length):stT deep (.mk 6 usn e ubody uels)=none:=by
 unfold stT
 rw [if_neg (show ¬ (6:Int)=1 by decide),if_neg (show ¬ (6:Int)=2 by decide),if_neg (show ¬ (6:Int)=3 by decide),if_neg (show ¬ (6:Int)=4 by decide),if_neg (show ¬ (6:Int)=7 by decide),if_pos (show (6:Int)=5∨(6:Int)=6 by decide)]
 cases hb:stsT (deep+1) ubody with
 | none=>rfl
 | some tb=>
   cases hl:stsT (deep+1) uels with
   | none=>rfl
   | some tl=>
     cases he:ex32 e with
     | none=>rfl
     | some te=>
       rw [hb,hl,he] at h
       simp only
       rw [if_pos]
       rcases h with h | h | h | h | h
       · cases h
       · cases h
       · cases h
       · exact .inl (fun hn=>by rw [(bEq_nil usn).2 hn] at h;cases h)
       · exact .inr ⟨trivial,h⟩
theorem st6_yes {deep:Nat} {usn te tb tl:List UInt8} {e:Ex} {ubody uels:List St} (hg:Sy.bEqL usn []=true) (he:ex32 e=some te) (hb:stsT (deep+1) ubody=some tb) (hl:stsT (deep+1) uels=some tl) (hz:uels.length=0):stT deep (.mk 6 usn e ubody uels)=some (margT deep++([119,104,105,108,101,32]++(te++([32,123,10]++(tb++(margT deep++[125,10])))))):=by
 have hn:=(bEq_nil usn).1 hg
 unfold stT
 rw [if_neg (show ¬ (6:Int)=1 by decide),if_neg (show ¬ (6:Int)=2 by decide),if_neg (show ¬ (6:Int)=3 by decide),if_neg (show ¬ (6:Int)=4 by decide),if_neg (show ¬ (6:Int)=7 by decide),if_pos (show (6:Int)=5∨(6:Int)=6 by decide)]
 rw [hb,hl,he]
 simp only
 rw [if_neg (show ¬ (usn≠[]∨True∧0<uels.length) from fun h=>h.elim (fun h=>h hn) (fun h=>absurd h.2 (by omega)))]
 rw [if_pos trivial]
open Go.Sy in
set_option maxRecDepth 100000 in
theorem rstmt6_of (N:Nat) (ih:RstC N) (usn:List UInt8) (uop uty ubits:Int) (uen:List UInt8) (uek:List Ex) (ubody uels:List St) (uba ula uea:Option Addr) (ubc ulc uec:Nat) (deep:Nat) (w:World) (hdeep:deep≤32) (hbd:swt (St.mk 6 usn (Ex.mk uop uty ubits uen uek) ubody uels)≤1000000000000) (hB:stB (St.mk 6 usn (Ex.mk uop uty ubits uen uek) ubody uels)≤1000000000000) (hR:stR (St.mk 6 usn (Ex.mk uop uty ubits uen uek) ubody uels)) (uhe:ExAt (·<w.heap.size) w (Ex.mk uop uty ubits uen uek) [.int .u8 uop,.int .u8 uty,.int .u64 ubits,.string (str uen),.slice uea uek.length uec]) (hN:swt (St.mk 6 usn (Ex.mk uop uty ubits uen uek) ubody uels)≤N) (ubx ulx:List Value) (uhbs:SlAt (·<w.heap.size) w uba ubody.length 9 ubx) (uhbt:StsAt (·<w.heap.size) w ubody ubx) (uhls:SlAt (·<w.heap.size) w ula uels.length 9 ulx) (uhlt:StsAt (·<w.heap.size) w uels ulx):
  Calls Tryz.prog 129 #[.agg #[.int .i64 6,.string (str usn),.int .u8 uop,.int .u8 uty,.int .u64 ubits,.string (str uen),.slice uea uek.length uec,.slice uba ubody.length ubc,.slice ula uels.length ulc],.int .i64 (deep:Int)] w (fun v w'=>∃ s,v=Ending.returned (.tuple #[.string (str s),.bool (stT deep (St.mk 6 usn (Ex.mk uop uty ubits uen uek) ubody uels)).isSome])∧(∀ t,stT deep (St.mk 6 usn (Ex.mk uop uty ubits uen uek) ubody uels)=some t→s=t)∧Below w.heap.size w w'):=by
 refine rstmt_front 6 usn uop uty ubits uen uek ubody uels uba ula uea ubc ulc uec deep w hdeep hbd hB hR uhe (fun γ0 hγ0=>?_)
 simp only [stB] at hB
 simp only [swt] at hbd hN
 obtain ⟨_,hRe,hRb,hRl⟩:=hR
 have hm:=margT_len deep
 have hwe:=wgt_pos (Ex.mk uop uty ubits uen uek)
 have hnl:=swts_len uels
 rcases Bool.eq_false_or_eq_true (Sy.bEqL usn []) with hg | hg <;> rcases ex_two (Ex.mk uop uty ubits uen uek) with ⟨he,h8⟩ | ⟨te,he,h8⟩ <;> rcases sts_two (deep+1) ubody with ⟨hb,b8⟩ | ⟨tb,hb,b8⟩ <;> rcases sts_two (deep+1) uels with ⟨hl,l8⟩ | ⟨tl,hl,l8⟩
 all_goals
  refine gS 10 (x := .bool (Sy.bEqL usn [])) (_) (congrArg Value.bool hg) ?_
  refine gS 8 (x := .int .i64 (exprE (Ex.mk uop uty ubits uen uek))) (_) (congrArg (Value.int .i64) h8) ?_
  refine rs [] 60 9 ?_
  refine gS 129 (x := .int .i64 (wrapF .i64 ((deep:Int)+1))) (.int .i64 ((deep+1:Nat):Int)) (by rw [wr64 (by omega) (by omega)];rfl) ?_
  refine gE [.slice uba ubody.length ubc,.int .i64 ((deep+1:Nat):Int)] (fun v=>∃ s,v = .tuple #[.string (str s),.bool (stsT (deep+1) ubody).isSome]∧∀ u,stsT (deep+1) ubody=some u→s=u) (fun W hk=>by
   have:=ih ubody uba ubody.length ubc ubx (deep+1) W rfl (by omega) (by omega) (by omega) (by omega) hRb ((uhbs.keep hk).mono (fun k h=>Nat.lt_of_lt_of_le h hk.size)) (StsAt_ls.1 (uhbt.keep hk (fun k h=>Nat.lt_of_lt_of_le h hk.size)))
   exact this.mono fun e w' ⟨s,h1,h2,h3⟩=>⟨_,h1,⟨s,rfl,h2⟩,h3⟩) ?_
  rintro v129 w129 ⟨s129,rfl,hs129⟩ hk129
  rw [b8]
  refine rk ?_
  refine gS 137 (x := .int .i64 (wrapF .i64 ((deep:Int)+1))) (.int .i64 ((deep+1:Nat):Int)) (by rw [wr64 (by omega) (by omega)];rfl) ?_
  refine gE [.slice ula uels.length ulc,.int .i64 ((deep+1:Nat):Int)] (fun v=>∃ s,v = .tuple #[.string (str s),.bool (stsT (deep+1) uels).isSome]∧∀ u,stsT (deep+1) uels=some u→s=u) (fun W hk=>by
   have:=ih uels ula uels.length ulc ulx (deep+1) W rfl (by omega) (by omega) (by omega) (by omega) hRl ((uhls.keep hk).mono (fun k h=>Nat.lt_of_lt_of_le h hk.size)) (StsAt_ls.1 (uhlt.keep hk (fun k h=>Nat.lt_of_lt_of_le h hk.size)))
   exact this.mono fun e w' ⟨s,h1,h2,h3⟩=>⟨_,h1,⟨s,rfl,h2⟩,h3⟩) ?_
  rintro v137 w137 ⟨s137,rfl,hs137⟩ hk137
  rw [l8]
  first
  | skip
    have hno:=(by first | exact .inl hb | exact .inr (.inl hl) | exact .inr (.inr (.inl he)) | exact .inr (.inr (.inr (.inl hg))):stsT (deep+1) ubody=none∨stsT (deep+1) uels=none∨ex32 (Ex.mk uop uty ubits uen uek)=none∨Sy.bEqL usn []=false∨0<uels.length)
    refine rs [] 60 9 ?_
    have hv:stT deep (St.mk 6 usn (Ex.mk uop uty ubits uen uek) ubody uels)=none:=st6_no (hno)
    exact gR (.tuple #[.string (str []),.bool false]) (fun W hk=>⟨[],by rw [hv];rfl,(fun t ht=>by rw [hv] at ht;cases ht),hk.below⟩)
  | skip
    have hte:=exT_len _ hRe (ex32_exT he)
    have hs129:=hs129 _ hb
    subst hs129
    have hl129:=stsT_len _ hRb hb
    have hs137:=hs137 _ hl
    subst hs137
    have hl137:=stsT_len _ hRl hl
    refine gS 7 (x := .string (str (exprS (Ex.mk uop uty ubits uen uek)))) (.string (str te)) (by unfold exprS;rw [he]) ?_
    refine rk ?_
    rcases Nat.eq_zero_or_pos uels.length with hz | hz
    rotate_left
    ·
     refine gK true (b:=intLt 0 (uels.length:Int)) (lt_t (by omega)) ?_
     refine rs [] 60 3 ?_
     have hv:stT deep (St.mk 6 usn (Ex.mk uop uty ubits uen uek) ubody uels)=none:=st6_no (.inr (.inr (.inr (.inr hz))))
     exact gR (.tuple #[.string (str []),.bool false]) (fun W hk=>⟨[],by rw [hv];rfl,(fun t ht=>by rw [hv] at ht;cases ht),hk.below⟩)
    refine gK false (b:=intLt 0 (uels.length:Int)) (lt_f (by omega)) ?_
    refine rs [170] 60 1 ?_
    refine gC (margT deep) ([119,104,105,108,101,32]) (by first | omega | (simp only [List.length_append,List.length_cons,List.length_nil];omega)) ?_
    refine rs [172] 60 0 ?_
    refine gC (margT deep++[119,104,105,108,101,32]) (te) (by first | omega | (simp only [List.length_append,List.length_cons,List.length_nil];omega)) ?_
    refine rs [173] 60 0 ?_
    refine gC (margT deep++[119,104,105,108,101,32]++te) ([32,123,10]) (by first | omega | (simp only [List.length_append,List.length_cons,List.length_nil];omega)) ?_
    refine rs [175] 60 0 ?_
    refine gC (margT deep++[119,104,105,108,101,32]++te++[32,123,10]) (s129) (by first | omega | (simp only [List.length_append,List.length_cons,List.length_nil];omega)) ?_
    refine rs [177] 60 0 ?_
    refine gC (margT deep++[119,104,105,108,101,32]++te++[32,123,10]++s129) (margT deep) (by first | omega | (simp only [List.length_append,List.length_cons,List.length_nil];omega)) ?_
    refine rs [178] 60 0 ?_
    refine gC (margT deep++[119,104,105,108,101,32]++te++[32,123,10]++s129++margT deep) ([125,10]) (by first | omega | (simp only [List.length_append,List.length_cons,List.length_nil];omega)) ?_
    refine rs [] 60 9 ?_
    have hv:stT deep (St.mk 6 usn (Ex.mk uop uty ubits uen uek) ubody uels)=some (margT deep++[119,104,105,108,101,32]++te++[32,123,10]++s129++margT deep++[125,10]):=by rw [st6_yes hg he hb hl hz];simp
    exact gR (.tuple #[.string (str (margT deep++[119,104,105,108,101,32]++te++[32,123,10]++s129++margT deep++[125,10])),.bool true]) (fun W hk=>⟨margT deep++[119,104,105,108,101,32]++te++[32,123,10]++s129++margT deep++[125,10],by rw [hv];rfl,(fun t ht=>by rw [hv] at ht;injection ht),hk.below⟩)
end Go.Proofs.YtiacalnkmnckjaaGreatDoor
end
section
namespace Go.Proofs.YtiacalnkmnckjaaGreatDoor
open Go.RowKit Go.As
open Go.Sy in
set_option maxRecDepth 100000 in
theorem rstmtother_of (ukind:Int) (usn:List UInt8) (uop uty ubits:Int) (uen:List UInt8) (uek:List Ex) (ubody uels:List St) (uba ula uea:Option Addr) (ubc ulc uec:Nat) (deep:Nat) (w:World) (hdeep:deep≤32) (hbd:swt (St.mk ukind usn (Ex.mk uop uty ubits uen uek) ubody uels)≤1000000000000) (hB:stB (St.mk ukind usn (Ex.mk uop uty ubits uen uek) ubody uels)≤1000000000000) (hR:stR (St.mk ukind usn (Ex.mk uop uty ubits uen uek) ubody uels)) (uhe:ExAt (·<w.heap.size) w (Ex.mk uop uty ubits uen uek) [.int .u8 uop,.int .u8 uty,.int .u64 ubits,.string (str uen),.slice uea uek.length uec]) (h1:¬ ukind=1) (h2:¬ ukind=2) (h3:¬ ukind=3) (h4:¬ ukind=4) (h5:¬ ukind=5) (h6:¬ ukind=6) (h7:¬ ukind=7):
  Calls Tryz.prog 129 #[.agg #[.int .i64 ukind,.string (str usn),.int .u8 uop,.int .u8 uty,.int .u64 ubits,.string (str uen),.slice uea uek.length uec,.slice uba ubody.length ubc,.slice ula uels.length ulc],.int .i64 (deep:Int)] w (fun v w'=>∃ s,v=Ending.returned (.tuple #[.string (str s),.bool (stT deep (St.mk ukind usn (Ex.mk uop uty ubits uen uek) ubody uels)).isSome])∧(∀ t,stT deep (St.mk ukind usn (Ex.mk uop uty ubits uen uek) ubody uels)=some t→s=t)∧Below w.heap.size w w'):=by
 refine rstmt_front ukind usn uop uty ubits uen uek ubody uels uba ula uea ubc ulc uec deep w hdeep hbd hB hR uhe (fun γ0 hγ0=>?_)
 refine rk ?_
 refine gK false (b:=intEq ukind 1) (eq_f h1) ?_
 refine rk ?_
 refine gK false (b:=intEq ukind 2) (eq_f h2) ?_
 refine rk ?_
 refine gK false (b:=intEq ukind 3) (eq_f h3) ?_
 refine rk ?_
 refine gK false (b:=intEq ukind 4) (eq_f h4) ?_
 refine rk ?_
 refine gK false (b:=intEq ukind 7) (eq_f h7) ?_
 refine rk ?_
 refine gK false (b:=intEq ukind 5) (eq_f h5) ?_
 refine rk ?_
 refine gK false (b:=intEq ukind 6) (eq_f h6) ?_
 refine rk ?_
 have hv:stT deep (St.mk ukind usn (Ex.mk uop uty ubits uen uek) ubody uels)=none:=by unfold stT;rw [if_neg h1,if_neg h2,if_neg h3,if_neg h4,if_neg h7,if_neg (fun h=>h.elim h5 h6)]
 exact gR (.tuple #[.string (str []),.bool false]) (fun W hk=>⟨[],by rw [hv];rfl,(fun t ht=>by rw [hv] at ht;cases ht),hk.below⟩)
theorem stmC_of (N:Nat) (ih:RstC N):StmC N:=by
 intro x cs deep w hN hbd hdeep hB hR hat
 obtain ⟨ukind,usn,⟨uop,uty,ubits,uen,uek⟩,ubody,uels⟩:=x
 simp only [StAt] at hat
 obtain ⟨ucs,uba,ubc,ubx,ula,ulc,ulx,rfl,uhe,uhbs,uhbt,uhls,uhlt⟩:=hat
 have uhe0:=uhe
 simp only [ExAt] at uhe0
 obtain ⟨uea,uec,uex,rfl,_⟩:=uhe0
 by_cases h1:ukind=1
 · subst h1
   exact rstmt1_of usn uop uty ubits uen uek ubody uels uba ula uea ubc ulc uec deep w hdeep hbd hB hR uhe
 by_cases h2:ukind=2
 · subst h2
   exact rstmt2_of usn uop uty ubits uen uek ubody uels uba ula uea ubc ulc uec deep w hdeep hbd hB hR uhe
 by_cases h3:ukind=3
 · subst h3
   exact rstmt3_of usn uop uty ubits uen uek ubody uels uba ula uea ubc ulc uec deep w hdeep hbd hB hR uhe
 by_cases h4:ukind=4
 · subst h4
   exact rstmt4_of usn uop uty ubits uen uek ubody uels uba ula uea ubc ulc uec deep w hdeep hbd hB hR uhe
 by_cases h7:ukind=7
 · subst h7
   exact rstmt7_of usn uop uty ubits uen uek ubody uels uba ula uea ubc ulc uec deep w hdeep hbd hB hR uhe
 by_cases h5:ukind=5
 · subst h5
   exact rstmt5_of N ih usn uop uty ubits uen uek ubody uels uba ula uea ubc ulc uec deep w hdeep hbd hB hR uhe hN ubx ulx uhbs uhbt uhls uhlt
 by_cases h6:ukind=6
 · subst h6
   exact rstmt6_of N ih usn uop uty ubits uen uek ubody uels uba ula uea ubc ulc uec deep w hdeep hbd hB hR uhe hN ubx ulx uhbs uhbt uhls uhlt
 exact rstmtother_of ukind usn uop uty ubits uen uek ubody uels uba ula uea ubc ulc uec deep w hdeep hbd hB hR uhe h1 h2 h3 h4 h5 h6 h7
theorem rstC:∀ N,RstC N
 | 0=>fun L a n cap xs deep w _ h=>absurd h (Nat.not_lt_zero _)
 | N+1=>rstmts_of N (stmC_of N (rstC N))
end Go.Proofs.YtiacalnkmnckjaaGreatDoor
end
section
namespace Go.Proofs.YtiacalnkmnckjaaGreatDoor
open Go.RowKit Go.As
theorem allT_len {α:Type} {f:α→Option (List UInt8)} {μ:α→Nat}:∀ {l:List α} {t:List UInt8},(∀ x∈l,∀ u,f x=some u→u.length≤1048900*μ x)→allT f l=some t→t.length≤1048900*sumN μ l
 | [],t,_,h=>by
   simp only [allT,Option.some.injEq] at h
   subst h
   simp
 | x::l,t,hf,h=>by
   simp only [allT] at h
   split at h
   · cases h
   rename_i a ha
   split at h
   · cases h
   rename_i b hb
   injection h with h
   have h1:=hf x (by simp) a ha
   have h2:=allT_len (fun y hy=>hf y (by simp [hy])) hb
   rw [← h]
   simp only [sumN,List.length_append]
   omega
theorem mxT_len {m t:List UInt8} (h:mxT m=some t):t.length≤1048900*txB m:=by
 rw [mxT_inv h]
 unfold txB
 simp only [List.length_append,List.length_cons,List.length_nil]
 omega
theorem thT_len {x:Th} {t:List UInt8} (hR:thR x) (h:thT x=some t):t.length≤1048900*thB x:=by
 obtain ⟨a,b,ha,hb,rfl⟩:=thT_inv h
 have h1:=varsT_len (by decide) hR.1 ha
 have h2:=stsT_len x.body hR.2 hb
 unfold thB
 simp only [List.length_append,List.length_cons,List.length_nil]
 omega
theorem pgT_len {p:Pg} {t:List UInt8} (hR:pgR p) (h:pgT p=some t):t.length≤1048900*pgB p:=by
 obtain ⟨a,b,c,ha,hb,hc,rfl⟩:=pgT_inv h
 have h1:=varsT_len (by decide) hR.1 ha
 have h2:=allT_len (μ:=txB) (fun m _ u hu=>mxT_len hu) hb
 have h3:=allT_len (μ:=thB) (fun x hx u hu=>thT_len (hR.2 x hx) hu) hc
 unfold pgB
 simp only [List.length_append]
 omega
end Go.Proofs.YtiacalnkmnckjaaGreatDoor
end
section
namespace Go.Proofs.YtiacalnkmnckjaaGreatDoor
open Go.RowKit Go.As
open Go.Sy in
set_option maxRecDepth 100000 in
theorem rPrint_any (p:Pg) (cs:List Value) (w:World) (hB:pgB p≤400000000000) (hR:pgR p) (hp:PgAt (·<w.heap.size) w p cs):
  Calls Tryz.prog 17 #[.agg cs.toArray] w fun v w'=>v = .returned (.tuple #[.string (str (printS p)),.int .i64 (printE p)])∧Below w.heap.size w w':=by
 obtain ⟨a,cap,xs,b,cap2,ys,d,cap3,zs,rfl,hxs,hxt,hys,hyt,hzs,hzt⟩:=hp
 unfold pgB at hB
 obtain ⟨hRs,hRt⟩:=hR
 have hl1:=len_sumN (μ:=vrB) (fun v=>by unfold vrB;omega) p.shared
 have hl2:=len_sumN (μ:=txB) (fun v=>by unfold txB;omega) p.mutexes
 have hl3:=len_sumN (μ:=thB) (fun v=>by unfold thB;omega) p.threads
 refine Sy.enter (vs:=[.agg #[.slice a p.shared.length cap,.slice b p.mutexes.length cap2,.slice d p.threads.length cap3]]) sy_fine Tryz.func17 rfl (fun γ=>norms_LR _) rfl (fun γ0 hγ0=>?_)
 refine rk ?_
 cases hS:allT (vrT [115,104,97,114,101,100]) p.shared with
 | none=>
   refine gE [.slice a p.shared.length cap,.string (str [115,104,97,114,101,100])] (fun v=>∃ s,v = .tuple #[.string (str s),.bool false]∧∀ u,allT (vrT [115,104,97,114,101,100]) p.shared=some u→s=u) (fun W hk=>by
    have:=rvars_any [115,104,97,114,101,100] (by decide) p.shared a p.shared.length cap xs W rfl (by omega) hRs ((hxs.keep hk).mono (fun k h=>Nat.lt_of_lt_of_le h hk.size)) hxt
    rw [hS] at this ⊢
    exact this.mono fun e w' ⟨s,h1,h2,h3⟩=>⟨_,h1,⟨s,rfl,h2⟩,h3⟩) ?_
   rintro v w2 ⟨s,rfl,hs⟩ hk2
   refine rs [] 60 3 ?_
   have hv:pgT p=none:=by unfold pgT;rw [hS]
   exact gR (.tuple #[.string (str []),.int .i64 2]) (fun W hk=>⟨by unfold printS printE;rw [hv],hk.below⟩)
 | some tS=>
   refine gE [.slice a p.shared.length cap,.string (str [115,104,97,114,101,100])] (fun v=>∃ s,v = .tuple #[.string (str s),.bool true]∧∀ u,allT (vrT [115,104,97,114,101,100]) p.shared=some u→s=u) (fun W hk=>by
    have:=rvars_any [115,104,97,114,101,100] (by decide) p.shared a p.shared.length cap xs W rfl (by omega) hRs ((hxs.keep hk).mono (fun k h=>Nat.lt_of_lt_of_le h hk.size)) hxt
    rw [hS] at this ⊢
    exact this.mono fun e w' ⟨s,h1,h2,h3⟩=>⟨_,h1,⟨s,rfl,h2⟩,h3⟩) ?_
   rintro v w2 ⟨s,rfl,hs⟩ hk2
   have hs:=hs _ hS
   subst hs
   have hlS:=varsT_len (by decide) hRs hS
   refine rs [] 60 1 ?_
   have e0:s++[]=s:=List.append_nil s
   refine gS 4 (x := .string (str s)) (.string (str (s++[]))) (by rw [e0]) ?_
   refine good_toLp ?_
   refine good_loopI (fun i:List (List UInt8)×List (List UInt8)×List UInt8=>i.2.1.length) (fun i=>p.mutexes=i.1++i.2.1∧allT mxT i.1=some i.2.2) (fun i=>⟨mkT [(1,.ptr gz 0),(4,.v (.string (str (s++i.2.2)))),(6,.v (.int .i64 (i.1.length:Int)))],mkH [(gz,some (.cells 26 true true true 3 (putL .leaf 0 [.v (.slice a p.shared.length cap),.v (.slice b p.mutexes.length cap2),.v (.slice d p.threads.length cap3)])))],gz+1,[]⟩)
    ([],p.mutexes,[]) ⟨rfl,rfl⟩ (by kernel_rfl)
    (fun h=>good_sub _ [(1,.ptr gz 0),(4,.v (.string (str (s++[])))),(6,.v (.int .i64 (([]:List (List UInt8)).length:Int)))] [(gz,some (.cells 26 true true true 3 (putL .leaf 0 [.v (.slice a p.shared.length cap),.v (.slice b p.mutexes.length cap2),.v (.slice d p.threads.length cap3)])))] (gz+1) rfl (by kernel_rfl) (by kernel_rfl) (by kernel_rfl) (by kernel_rfl) (by kernel_rfl) (fun b hb=>hγ0 b (Nat.le_trans (Nat.le_add_right _ _) hb)) (by kernel_rfl) h) ?_
   rintro ⟨m1,m2,t2⟩ ⟨hI,ht2⟩ ih
   have hI:p.mutexes=m1++m2:=hI
   have ht2:allT mxT m1=some t2:=ht2
   have hn2:p.mutexes.length=m1.length+m2.length:=by rw [hI,List.length_append]
   have hsm:sumN txB p.mutexes=sumN txB m1+sumN txB m2:=by rw [hI,sumN_app]
   have hl2':=allT_len (μ:=txB) (fun m _ u hu=>mxT_len hu) ht2
   refine rk ?_
   cases m2 with
   | cons x m3=>
     have hks2:=hyt
     rw [hI] at hks2
     obtain ⟨c,hc,hcell⟩:=hks2.at_ (k:=1) (fun _ _ h=>by rw [show _=_ from h];rfl)
     obtain rfl:c=[.string (str x)]:=hc
     have hin:m1.length<p.mutexes.length:=by rw [hn2,List.length_cons];omega
     have hxb:txB x=x.length+1:=rfl
     simp only [sumN] at hsm
     refine gK true (b:=intLt (m1.length:Int) (p.mutexes.length:Int)) (lt_t (by omega)) ?_
     refine rk ?_
     refine gV (.pointer (some ⟨gB b,oB b+m1.length*1,none⟩)) (S:=Instr.indexAt 23 (.slice b p.mutexes.length cap2) (.int .i64 (m1.length:Int))) (fun W _=>idx_sl (e:=9) hys (by kernel_rfl) (by kernel_rfl) hin W) ?_
     refine rk ?_
     refine gV (.string (str x)) (S:=Instr.loadAt 9 (.pointer (some ⟨gB b,oB b+m1.length*1+0,none⟩))) (fun W hk=>load_sl hys (by kernel_rfl) m1.length 0 (by rw [Nat.add_zero];exact hcell 0 _ rfl) hk) ?_
     refine rk ?_
     cases hn:nameB x with
     | false=>
       refine gX [.string (str x)] (.bool false) (fun W hk=>by have:=nameR_any x W (by unfold maxLen;omega);rw [hn] at this;exact this) ?_
       refine rs [] 60 3 ?_
       have hv:pgT p=none:=by unfold pgT;rw [hS,hI,allT_app,ht2];simp only [allT,mxT,hn];rfl
       exact gR (.tuple #[.string (str []),.int .i64 2]) (fun W hk=>⟨by unfold printS printE;rw [hv],hk.below⟩)
     | true=>
       refine gX [.string (str x)] (.bool true) (fun W hk=>by have:=nameR_any x W (by unfold maxLen;omega);rw [hn] at this;exact this) ?_
       refine rs [36] 60 1 ?_
       refine gC (s++t2) ([109,117,116,101,120,32]) (by first | omega | (simp only [List.length_append,List.length_cons,List.length_nil];omega)) ?_
       refine rk ?_
       refine gV (.pointer (some ⟨gB b,oB b+m1.length*1,none⟩)) (S:=Instr.indexAt 23 (.slice b p.mutexes.length cap2) (.int .i64 (m1.length:Int))) (fun W _=>idx_sl (e:=9) hys (by kernel_rfl) (by kernel_rfl) hin W) ?_
       refine rk ?_
       refine gV (.string (str x)) (S:=Instr.loadAt 9 (.pointer (some ⟨gB b,oB b+m1.length*1+0,none⟩))) (fun W hk=>load_sl hys (by kernel_rfl) m1.length 0 (by rw [Nat.add_zero];exact hcell 0 _ rfl) hk) ?_
       refine rs [42] 60 0 ?_
       refine gC (s++t2++[109,117,116,101,120,32]) (x) (by first | omega | (simp only [List.length_append,List.length_cons,List.length_nil];omega)) ?_
       refine rs [43] 60 0 ?_
       refine gC (s++t2++[109,117,116,101,120,32]++x) ([59,10]) (by first | omega | (simp only [List.length_append,List.length_cons,List.length_nil];omega)) ?_
       refine rk ?_
       have hmx:mxT x=some ([109,117,116,101,120,32]++(x++[59,10])):=by unfold mxT;rw [if_pos hn]
       refine gS 4 (x := .string (str (s++t2++[109,117,116,101,120,32]++x++[59,10]))) (.string (str (s++(t2++([109,117,116,101,120,32]++(x++[59,10])))))) (by simp) ?_
       refine gS 6 (x := .int .i64 (wrapF .i64 ((m1.length:Int)+1))) (.int .i64 ((m1++[x]).length:Nat)) (by rw [wr64 (by omega) (by omega),List.length_append];rfl) ?_
       exact gU _ [(1,.ptr gz 0),(4,.v (.string (str (s++(t2++([109,117,116,101,120,32]++(x++[59,10]))))))),(6,.v (.int .i64 ((m1++[x]).length:Int)))] [(gz,some (.cells 26 true true true 3 (putL .leaf 0 [.v (.slice a p.shared.length cap),.v (.slice b p.mutexes.length cap2),.v (.slice d p.threads.length cap3)])))] (gz+1) (fun b hb=>hγ0 b (Nat.le_trans (Nat.le_add_right _ _) hb)) (ih (m1++[x],m3,(t2++([109,117,116,101,120,32]++(x++[59,10])))) ⟨by show p.mutexes=(m1++[_])++m3;rw [hI];simp,by show allT mxT (m1++[_])=_;rw [allT_app,ht2];simp only [allT,hmx,List.append_nil]⟩ (by show m3.length<(_::m3).length;simp))
   | nil=>
     refine gK false (b:=intLt (m1.length:Int) (p.mutexes.length:Int)) (lt_f (by simp at hn2;omega)) ?_
     have hM:allT mxT p.mutexes=some t2:=by rw [hI,List.append_nil];exact ht2
     refine rk ?_
     refine gS 4 (x := .string (str (s++t2))) (.string (str (s++(t2++[])))) (by rw [List.append_nil]) ?_
     refine good_toLp ?_
     refine good_loopI (fun i:List Th×List Th×List UInt8=>i.2.1.length) (fun i=>p.threads=i.1++i.2.1∧allT thT i.1=some i.2.2) (fun i=>⟨mkT [(1,.ptr gz 0),(4,.v (.string (str (s++(t2++i.2.2))))),(7,.v (.int .i64 (i.1.length:Int)))],mkH [(gz,some (.cells 26 true true true 3 (putL .leaf 0 [.v (.slice a p.shared.length cap),.v (.slice b p.mutexes.length cap2),.v (.slice d p.threads.length cap3)])))],gz+1,[]⟩)
      ([],p.threads,[]) ⟨rfl,rfl⟩ (by kernel_rfl)
      (fun h=>good_sub _ [(1,.ptr gz 0),(4,.v (.string (str (s++(t2++[]))))),(7,.v (.int .i64 (([]:List Th).length:Int)))] [(gz,some (.cells 26 true true true 3 (putL .leaf 0 [.v (.slice a p.shared.length cap),.v (.slice b p.mutexes.length cap2),.v (.slice d p.threads.length cap3)])))] (gz+1) rfl (by kernel_rfl) (by kernel_rfl) (by kernel_rfl) (by kernel_rfl) (by kernel_rfl) (fun b hb=>hγ0 b (Nat.le_trans (Nat.le_add_right _ _) hb)) (by kernel_rfl) h) ?_
     rintro ⟨k1,k2,t3⟩ ⟨hI3,ht3⟩ ih3
     have hI3:p.threads=k1++k2:=hI3
     have ht3:allT thT k1=some t3:=ht3
     have hn3:p.threads.length=k1.length+k2.length:=by rw [hI3,List.length_append]
     have hst:sumN thB p.threads=sumN thB k1+sumN thB k2:=by rw [hI3,sumN_app]
     have hl3':=allT_len (μ:=thB) (fun x hx u hu=>thT_len (hRt x (by rw [hI3];simp [hx])) hu) ht3
     refine rk ?_
     cases k2 with
     | cons x k3=>
       have hks2:=hzt
       rw [hI3] at hks2
       obtain ⟨c,hc,hcell⟩:=hks2.at_ (k:=3) (fun _ _ h=>h.len)
       obtain ⟨hxRl,hxRb⟩:=hRt x (by rw [hI3];simp)
       simp only [sumN] at hst
       have hxb:thB x=x.name.length+1+sumN vrB x.locals+stBs x.body:=rfl
       have hkb:=swts_stBs x.body
       obtain ⟨xa,xcap,xxs,xb,xcap2,xys,rfl,xh1,xh2,xh3,xh4⟩:=hc
       have hin:k1.length<p.threads.length:=by rw [hn3,List.length_cons];omega
       refine gK true (b:=intLt (k1.length:Int) (p.threads.length:Int)) (lt_t (by omega)) ?_
       refine rk ?_
       refine gV (.pointer (some ⟨gB d,oB d+k1.length*3,none⟩)) (S:=Instr.indexAt 24 (.slice d p.threads.length cap3) (.int .i64 (k1.length:Int))) (fun W _=>idx_sl (e:=58) hzs (by kernel_rfl) (by kernel_rfl) hin W) ?_
       refine rk ?_
       refine gV (.agg #[.string (str x.name),.slice xa x.locals.length xcap,.slice xb x.body.length xcap2]) (S:=Instr.loadAt 58 (.pointer (some ⟨gB d,oB d+k1.length*3+0,none⟩))) (fun W hk=>load_slA (P:=Tryz.prog) (ty:=58) (m:=3) (cs:=[.string (str x.name),.slice xa x.locals.length xcap,.slice xb x.body.length xcap2]) hzs (by kernel_rfl) (by kernel_rfl) k1.length 0 rfl (fun j v hv=>by rw [Nat.add_zero];exact hcell j v hv) (W:=W) hk) ?_
       refine rk ?_
       have hno:thT x=none→pgT p=none:=fun h=>by unfold pgT;rw [hS,hM,hI3,allT_app,ht3];simp only [allT,h]
       cases hA:allT (vrT [32,32,108,111,99,97,108]) x.locals with
       | none=>
         refine gE [.slice xa x.locals.length xcap,.string (str [32,32,108,111,99,97,108])] (fun v=>∃ s,v = .tuple #[.string (str s),.bool false]∧∀ u,allT (vrT [32,32,108,111,99,97,108]) x.locals=some u→s=u) (fun W hk=>by
          have:=rvars_any [32,32,108,111,99,97,108] (by decide) x.locals xa x.locals.length xcap xxs W rfl (by omega) hxRl ((xh1.keep hk).mono (fun k h=>Nat.lt_of_lt_of_le h hk.size)) xh2
          rw [hA] at this ⊢
          exact this.mono fun e w' ⟨s,h1,h2,h3⟩=>⟨_,h1,⟨s,rfl,h2⟩,h3⟩) ?_
         rintro va wa ⟨sa,rfl,hsa⟩ hka
         refine rk ?_
         cases hb:stsT 0 x.body with
         | none=>
           refine gE [.slice xb x.body.length xcap2,.int .i64 ((0:Nat):Int)] (fun v=>∃ s,v = .tuple #[.string (str s),.bool false]∧∀ u,stsT 0 x.body=some u→s=u) (fun W hk=>by
            have:=rstC _ x.body xb x.body.length xcap2 xys 0 W rfl (Nat.lt_succ_self _) (by omega) (by omega) (by omega) hxRb ((xh3.keep hk).mono (fun k h=>Nat.lt_of_lt_of_le h hk.size)) (StsAt_ls.1 (xh4.keep hk (fun k h=>Nat.lt_of_lt_of_le h hk.size)))
            rw [hb] at this ⊢
            exact this.mono fun e w' ⟨s,h1,h2,h3⟩=>⟨_,h1,⟨s,rfl,h2⟩,h3⟩) ?_
           rintro vb wb ⟨sb,rfl,hsb⟩ hkb2
           refine rs [] 60 9 ?_
           have hv:pgT p=none:=hno (by unfold thT;rw [hA])
           exact gR (.tuple #[.string (str []),.int .i64 2]) (fun W hk=>⟨by unfold printS printE;rw [hv],hk.below⟩)
         | some tB=>
           refine gE [.slice xb x.body.length xcap2,.int .i64 ((0:Nat):Int)] (fun v=>∃ s,v = .tuple #[.string (str s),.bool true]∧∀ u,stsT 0 x.body=some u→s=u) (fun W hk=>by
            have:=rstC _ x.body xb x.body.length xcap2 xys 0 W rfl (Nat.lt_succ_self _) (by omega) (by omega) (by omega) hxRb ((xh3.keep hk).mono (fun k h=>Nat.lt_of_lt_of_le h hk.size)) (StsAt_ls.1 (xh4.keep hk (fun k h=>Nat.lt_of_lt_of_le h hk.size)))
            rw [hb] at this ⊢
            exact this.mono fun e w' ⟨s,h1,h2,h3⟩=>⟨_,h1,⟨s,rfl,h2⟩,h3⟩) ?_
           rintro vb wb ⟨sb,rfl,hsb⟩ hkb2
           have hsb:=hsb _ hb
           subst hsb
           have hlB:=stsT_len x.body hxRb hb
           refine rs [] 60 9 ?_
           have hv:pgT p=none:=hno (by unfold thT;rw [hA])
           exact gR (.tuple #[.string (str []),.int .i64 2]) (fun W hk=>⟨by unfold printS printE;rw [hv],hk.below⟩)
       | some tA=>
         refine gE [.slice xa x.locals.length xcap,.string (str [32,32,108,111,99,97,108])] (fun v=>∃ s,v = .tuple #[.string (str s),.bool true]∧∀ u,allT (vrT [32,32,108,111,99,97,108]) x.locals=some u→s=u) (fun W hk=>by
          have:=rvars_any [32,32,108,111,99,97,108] (by decide) x.locals xa x.locals.length xcap xxs W rfl (by omega) hxRl ((xh1.keep hk).mono (fun k h=>Nat.lt_of_lt_of_le h hk.size)) xh2
          rw [hA] at this ⊢
          exact this.mono fun e w' ⟨s,h1,h2,h3⟩=>⟨_,h1,⟨s,rfl,h2⟩,h3⟩) ?_
         rintro va wa ⟨sa,rfl,hsa⟩ hka
         have hsa:=hsa _ hA
         subst hsa
         have hlA:=varsT_len (by decide) hxRl hA
         refine rk ?_
         cases hb:stsT 0 x.body with
         | none=>
           refine gE [.slice xb x.body.length xcap2,.int .i64 ((0:Nat):Int)] (fun v=>∃ s,v = .tuple #[.string (str s),.bool false]∧∀ u,stsT 0 x.body=some u→s=u) (fun W hk=>by
            have:=rstC _ x.body xb x.body.length xcap2 xys 0 W rfl (Nat.lt_succ_self _) (by omega) (by omega) (by omega) hxRb ((xh3.keep hk).mono (fun k h=>Nat.lt_of_lt_of_le h hk.size)) (StsAt_ls.1 (xh4.keep hk (fun k h=>Nat.lt_of_lt_of_le h hk.size)))
            rw [hb] at this ⊢
            exact this.mono fun e w' ⟨s,h1,h2,h3⟩=>⟨_,h1,⟨s,rfl,h2⟩,h3⟩) ?_
           rintro vb wb ⟨sb,rfl,hsb⟩ hkb2
           refine rs [] 60 9 ?_
           have hv:pgT p=none:=hno (by unfold thT;rw [hA,hb])
           exact gR (.tuple #[.string (str []),.int .i64 2]) (fun W hk=>⟨by unfold printS printE;rw [hv],hk.below⟩)
         | some tB=>
           refine gE [.slice xb x.body.length xcap2,.int .i64 ((0:Nat):Int)] (fun v=>∃ s,v = .tuple #[.string (str s),.bool true]∧∀ u,stsT 0 x.body=some u→s=u) (fun W hk=>by
            have:=rstC _ x.body xb x.body.length xcap2 xys 0 W rfl (Nat.lt_succ_self _) (by omega) (by omega) (by omega) hxRb ((xh3.keep hk).mono (fun k h=>Nat.lt_of_lt_of_le h hk.size)) (StsAt_ls.1 (xh4.keep hk (fun k h=>Nat.lt_of_lt_of_le h hk.size)))
            rw [hb] at this ⊢
            exact this.mono fun e w' ⟨s,h1,h2,h3⟩=>⟨_,h1,⟨s,rfl,h2⟩,h3⟩) ?_
           rintro vb wb ⟨sb,rfl,hsb⟩ hkb2
           have hsb:=hsb _ hb
           subst hsb
           have hlB:=stsT_len x.body hxRb hb
           refine rs [] 60 3 ?_
           cases hn:nameB x.name with
           | false=>
             refine gX [.string (str x.name)] (.bool false) (fun W hk=>by have:=nameR_any x.name W (by unfold maxLen;omega);rw [hn] at this;exact this) ?_
             refine rs [] 60 3 ?_
             have hv:pgT p=none:=hno (by unfold thT;rw [hA,hb];simp only [hn];rfl)
             exact gR (.tuple #[.string (str []),.int .i64 2]) (fun W hk=>⟨by unfold printS printE;rw [hv],hk.below⟩)
           | true=>
             refine gX [.string (str x.name)] (.bool true) (fun W hk=>by have:=nameR_any x.name W (by unfold maxLen;omega);rw [hn] at this;exact this) ?_
             refine rs [81] 60 1 ?_
             refine gC (s++(t2++t3)) ([116,104,114,101,97,100,32]) (by first | omega | (simp only [List.length_append,List.length_cons,List.length_nil];omega)) ?_
             refine rs [84] 60 0 ?_
             refine gC (s++(t2++t3)++[116,104,114,101,97,100,32]) (x.name) (by first | omega | (simp only [List.length_append,List.length_cons,List.length_nil];omega)) ?_
             refine rs [85] 60 0 ?_
             refine gC (s++(t2++t3)++[116,104,114,101,97,100,32]++x.name) ([32,123,10]) (by first | omega | (simp only [List.length_append,List.length_cons,List.length_nil];omega)) ?_
             refine rs [87] 60 0 ?_
             refine gC (s++(t2++t3)++[116,104,114,101,97,100,32]++x.name++[32,123,10]) (sa) (by first | omega | (simp only [List.length_append,List.length_cons,List.length_nil];omega)) ?_
             refine rs [89] 60 0 ?_
             refine gC (s++(t2++t3)++[116,104,114,101,97,100,32]++x.name++[32,123,10]++sa) (sb) (by first | omega | (simp only [List.length_append,List.length_cons,List.length_nil];omega)) ?_
             refine rs [90] 60 0 ?_
             refine gC (s++(t2++t3)++[116,104,114,101,97,100,32]++x.name++[32,123,10]++sa++sb) ([125,10]) (by first | omega | (simp only [List.length_append,List.length_cons,List.length_nil];omega)) ?_
             refine rk ?_
             have hth:thT x=some ([116,104,114,101,97,100,32]++(x.name++([32,123,10]++(sa++(sb++[125,10]))))):=by unfold thT;rw [hA,hb];simp only;rw [if_pos hn]
             refine gS 4 (x := .string (str (s++(t2++t3)++[116,104,114,101,97,100,32]++x.name++[32,123,10]++sa++sb++[125,10]))) (.string (str (s++(t2++(t3++([116,104,114,101,97,100,32]++(x.name++([32,123,10]++(sa++(sb++[125,10])))))))))) (by simp) ?_
             refine gS 7 (x := .int .i64 (wrapF .i64 ((k1.length:Int)+1))) (.int .i64 ((k1++[x]).length:Nat)) (by rw [wr64 (by omega) (by omega),List.length_append];rfl) ?_
             exact gU _ [(1,.ptr gz 0),(4,.v (.string (str (s++(t2++(t3++([116,104,114,101,97,100,32]++(x.name++([32,123,10]++(sa++(sb++[125,10]))))))))))),(7,.v (.int .i64 ((k1++[x]).length:Int)))] [(gz,some (.cells 26 true true true 3 (putL .leaf 0 [.v (.slice a p.shared.length cap),.v (.slice b p.mutexes.length cap2),.v (.slice d p.threads.length cap3)])))] (gz+1) (fun b hb=>hγ0 b (Nat.le_trans (Nat.le_add_right _ _) hb)) (ih3 (k1++[x],k3,(t3++([116,104,114,101,97,100,32]++(x.name++([32,123,10]++(sa++(sb++[125,10]))))))) ⟨by show p.threads=(k1++[_])++k3;rw [hI3];simp,by show allT thT (k1++[_])=_;rw [allT_app,ht3];simp only [allT,hth,List.append_nil]⟩ (by show k3.length<(_::k3).length;simp))
     | nil=>
       refine gK false (b:=intLt (k1.length:Int) (p.threads.length:Int)) (lt_f (by simp at hn3;omega)) ?_
       have hT:allT thT p.threads=some t3:=by rw [hI3,List.append_nil];exact ht3
       have hv:pgT p=some (s++(t2++t3)):=by unfold pgT;rw [hS,hM,hT]
       refine rk ?_
       by_cases hm:16384<(s++(t2++t3)).length
       ·
        refine gK true (b:=intLt 16384 ((str (s++(t2++t3))).size:Int)) (lt_t (by rw [str_size];omega)) ?_
        refine rs [] 60 1 ?_
        exact gR (.tuple #[.string (str []),.int .i64 3]) (fun W hk=>⟨by unfold printS printE;rw [hv];simp only [if_pos hm],hk.below⟩)
       refine gK false (b:=intLt 16384 ((str (s++(t2++t3))).size:Int)) (lt_f (by rw [str_size];omega)) ?_
       refine rs [] 60 1 ?_
       exact gR (.tuple #[.string (str (s++(t2++t3))),.int .i64 0]) (fun W hk=>⟨by unfold printS printE;rw [hv];simp only [if_neg hm],hk.below⟩)
end Go.Proofs.YtiacalnkmnckjaaGreatDoor
end
section
namespace Go.Proofs.YtiacalnkmnckjaaGreatDoor
open Go.RowKit Go.As
theorem bEq_self (l:List UInt8):Sy.bEqL l l=true:=by rw [Sy.bEqL_eq];simp
open Go.Sy in
set_option maxRecDepth 100000 in
theorem prints_tail (p:Pg) (e:Ex) (w:World) (ht:Tab w) (hbd:pgB p+exB e≤1048576) (hpR:pgR p) (heR:exR e) (B0:Nat→Prop) (w0:World) (γ0:Gm) (hγ0:∀ b,gz+5≤b→γ0 b=none) (hk00:Keep (·<w.heap.size) w w0) (hB00:∀ k,k<w.heap.size→B0 k) (hB0:∀ k,B0 k→k<w0.heap.size)
  (k3 k4 k5 k7 k8:Nat) {pa pb pd ua ub ud:Option Addr} {pns pnm pnt pcap pcap2 pcap3 uns unm unt ucap ucap2 ucap3:Nat} {eop ety ebits fop fty fbits:Int} {en fn:List UInt8} {ea fa:Option Addr} {eka eec fka fec:Nat} {vty:Int} {vn:Nat} (hvn:vn<18446744073709551616)
  (hb3:SlAt B0 w0 (some ⟨k3,0,none⟩) 1 3 [.slice pa pns pcap,.slice pb pnm pcap2,.slice pd pnt pcap3]) (hb4:SlAt B0 w0 (some ⟨k4,0,none⟩) 1 5 [.int .u8 eop,.int .u8 ety,.int .u64 ebits,.string (str en),.slice ea eka eec]) (hb5:SlAt B0 w0 (some ⟨k5,0,none⟩) 1 2 [.int .u8 vty,.int .u64 (vn:Int)]) (hb7:SlAt B0 w0 (some ⟨k7,0,none⟩) 1 3 [.slice ua uns ucap,.slice ub unm ucap2,.slice ud unt ucap3]) (hb8:SlAt B0 w0 (some ⟨k8,0,none⟩) 1 5 [.int .u8 fop,.int .u8 fty,.int .u64 fbits,.string (str fn),.slice fa fka fec])
  (hp:PgAt B0 w0 p [.slice pa pns pcap,.slice pb pnm pcap2,.slice pd pnt pcap3]) (he:ExAt B0 w0 e [.int .u8 eop,.int .u8 ety,.int .u64 ebits,.string (str en),.slice ea eka eec]) (hu:PgAt B0 w0 p [.slice ua uns ucap,.slice ub unm ucap2,.slice ud unt ucap3]) (hf:ExAt B0 w0 e [.int .u8 fop,.int .u8 fty,.int .u64 fbits,.string (str fn),.slice fa fka fec]):
  Go.Sy.Good Tryz.prog B0 w0 γ0 Tryz.f3.ntmps (bodyPostD Tryz.prog Tryz.f3 (fun r w'=>r = .returned (.bool true)∧Below w.heap.size w w')) ⟨[.code (seqR (seqR (seqR (Tryz.f3.body.getD .skip))))],⟨mkT [(3,.v (.pointer (some ⟨k3,0,none⟩))),(4,.v (.pointer (some ⟨k4,0,none⟩))),(5,.v (.pointer (some ⟨k5,0,none⟩))),(6,.v (.bool false)),(7,.v (.pointer (some ⟨k7,0,none⟩))),(8,.v (.pointer (some ⟨k8,0,none⟩)))],mkH [],gz+5,[]⟩⟩:=by
 have hwp:=pwt_pgB p
 have hwe:=wgt_exB e
 have keepP:∀ (cs:List Value),PgAt B0 w0 p cs→∀ W,Keep B0 w0 W→PgAt (·<W.heap.size) W p cs:=fun cs h W hk=>h.keep hk fun k h=>Nat.lt_of_lt_of_le (hB0 k h) hk.size
 have keepE:∀ (cs:List Value),ExAt B0 w0 e cs→∀ W,Keep B0 w0 W→ExAt (·<W.heap.size) W e cs:=fun cs h W hk=>h.keep hk fun k h=>Nat.lt_of_lt_of_le (hB0 k h) hk.size
 have PP:=keepP _ hp
 have PA:=keepP _ hu
 have PE:=keepE _ he
 have PG:=keepE _ hf
 refine rk ?_
 refine gV (.agg #[.slice ua uns ucap,.slice ub unm ucap2,.slice ud unt ucap3]) (S:=Instr.loadAt 26 (.pointer (some ⟨k7,0,none⟩))) (fun W hk=>ld_box hb7 (by kernel_rfl) (by kernel_rfl) hk) ?_
 refine rk ?_
 refine gX [.agg #[.slice ua uns ucap,.slice ub unm ucap2,.slice ud unt ucap3]] (.tuple #[.string (str (printS p)),.int .i64 (printE p)]) (fun W hk=>tPrint_any p [.slice ua uns ucap,.slice ub unm ucap2,.slice ud unt ucap3] W (by omega) hpR (ht.below (hk00.trans (hk.mono hB00)).below) (fun t h=>by have:=pgT_len hpR h;omega) (PA W hk)) ?_
 refine rk ?_
 refine gV (.agg #[.slice pa pns pcap,.slice pb pnm pcap2,.slice pd pnt pcap3]) (S:=Instr.loadAt 26 (.pointer (some ⟨k3,0,none⟩))) (fun W hk=>ld_box hb3 (by kernel_rfl) (by kernel_rfl) hk) ?_
 refine rk ?_
 refine gX [.agg #[.slice pa pns pcap,.slice pb pnm pcap2,.slice pd pnt pcap3]] (.tuple #[.string (str (printS p)),.int .i64 (printE p)]) (fun W hk=>rPrint_any p [.slice pa pns pcap,.slice pb pnm pcap2,.slice pd pnt pcap3] W (by omega) hpR (PP W hk)) ?_
 refine rk ?_
 refine gV (.agg #[.int .u8 fop,.int .u8 fty,.int .u64 fbits,.string (str fn),.slice fa fka fec]) (S:=Instr.loadAt 34 (.pointer (some ⟨k8,0,none⟩))) (fun W hk=>ld_box hb8 (by kernel_rfl) (by kernel_rfl) hk) ?_
 refine rk ?_
 refine gX [.agg #[.int .u8 fop,.int .u8 fty,.int .u64 fbits,.string (str fn),.slice fa fka fec]] (.tuple #[.string (str (exprS e)),.int .i64 (exprE e)]) (fun W hk=>tExpr_any e [.int .u8 fop,.int .u8 fty,.int .u64 fbits,.string (str fn),.slice fa fka fec] W (by omega) (by omega) heR (ht.below (hk00.trans (hk.mono hB00)).below) (fun t h=>by have:=exT_len e heR (ex32_exT h);omega) (PG W hk)) ?_
 refine rk ?_
 refine gV (.agg #[.int .u8 eop,.int .u8 ety,.int .u64 ebits,.string (str en),.slice ea eka eec]) (S:=Instr.loadAt 34 (.pointer (some ⟨k4,0,none⟩))) (fun W hk=>ld_box hb4 (by kernel_rfl) (by kernel_rfl) hk) ?_
 refine rk ?_
 refine gX [.agg #[.int .u8 eop,.int .u8 ety,.int .u64 ebits,.string (str en),.slice ea eka eec]] (.tuple #[.string (str (exprS e)),.int .i64 (exprE e)]) (fun W hk=>rExpr_any e [.int .u8 eop,.int .u8 ety,.int .u64 ebits,.string (str en),.slice ea eka eec] W (by omega) (by omega) heR (PE W hk)) ?_
 refine rk ?_
 refine gV (.agg #[.int .u8 vty,.int .u64 (vn:Int)]) (S:=Instr.loadAt 31 (.pointer (some ⟨k5,0,none⟩))) (fun W hk=>ld_box hb5 (by kernel_rfl) (by kernel_rfl) hk) ?_
 refine rk ?_
 refine gX [.agg #[.int .u8 vty,.int .u64 (vn:Int)]] (.tuple #[.string (str (valueS vty vn)),.int .i64 (valueE vty vn)]) (fun W hk=>tValue_any vty vn hvn W (ht.below (hk00.trans (hk.mono hB00)).below)) ?_
 refine rk ?_
 refine gV (.agg #[.int .u8 vty,.int .u64 (vn:Int)]) (S:=Instr.loadAt 31 (.pointer (some ⟨k5,0,none⟩))) (fun W hk=>ld_box hb5 (by kernel_rfl) (by kernel_rfl) hk) ?_
 refine rk ?_
 refine gX [.agg #[.int .u8 vty,.int .u64 (vn:Int)]] (.tuple #[.string (str (valueS vty vn)),.int .i64 (valueE vty vn)]) (fun W hk=>rValue_any vty vn hvn W) ?_
 refine rs [66] 60 0 ?_
 refine gS 64 (x := .bool (Sy.bEqL (printS p) (printS p))) (.bool true) (by rw [bEq_self]) ?_
 refine gS 65 (x := .bool (Sy.bEqL (printS p) (printS p))) (.bool true) (by rw [bEq_self]) ?_
 refine rs [71] 60 0 ?_
 refine gS 68 (x := .bool (intEq (printE p) (printE p))) (.bool true) (by rw [eq_t rfl]) ?_
 refine gS 69 (x := .bool (intEq (printE p) (printE p))) (.bool true) (by rw [eq_t rfl]) ?_
 refine gS 70 (x := .bool (intEq (printE p) (printE p))) (.bool true) (by rw [eq_t rfl]) ?_
 refine rs [76] 60 0 ?_
 refine gS 73 (x := .bool (Sy.bEqL (exprS e) (exprS e))) (.bool true) (by rw [bEq_self]) ?_
 refine gS 74 (x := .bool (Sy.bEqL (exprS e) (exprS e))) (.bool true) (by rw [bEq_self]) ?_
 refine gS 75 (x := .bool (Sy.bEqL (exprS e) (exprS e))) (.bool true) (by rw [bEq_self]) ?_
 refine rs [81] 60 0 ?_
 refine gS 78 (x := .bool (intEq (exprE e) (exprE e))) (.bool true) (by rw [eq_t rfl]) ?_
 refine gS 79 (x := .bool (intEq (exprE e) (exprE e))) (.bool true) (by rw [eq_t rfl]) ?_
 refine gS 80 (x := .bool (intEq (exprE e) (exprE e))) (.bool true) (by rw [eq_t rfl]) ?_
 refine rs [86] 60 0 ?_
 refine gS 83 (x := .bool (Sy.bEqL (valueS vty vn) (valueS vty vn))) (.bool true) (by rw [bEq_self]) ?_
 refine gS 84 (x := .bool (Sy.bEqL (valueS vty vn) (valueS vty vn))) (.bool true) (by rw [bEq_self]) ?_
 refine gS 85 (x := .bool (Sy.bEqL (valueS vty vn) (valueS vty vn))) (.bool true) (by rw [bEq_self]) ?_
 refine rs [91] 60 0 ?_
 refine gS 88 (x := .bool (intEq (valueE vty vn) (valueE vty vn))) (.bool true) (by rw [eq_t rfl]) ?_
 refine gS 89 (x := .bool (intEq (valueE vty vn) (valueE vty vn))) (.bool true) (by rw [eq_t rfl]) ?_
 refine gS 90 (x := .bool (intEq (valueE vty vn) (valueE vty vn))) (.bool true) (by rw [eq_t rfl]) ?_
 refine rk ?_
 refine gV (.agg #[.slice ua uns ucap,.slice ub unm ucap2,.slice ud unt ucap3]) (S:=Instr.loadAt 26 (.pointer (some ⟨k7,0,none⟩))) (fun W hk=>ld_box hb7 (by kernel_rfl) (by kernel_rfl) hk) ?_
 refine rk ?_
 refine gV (.agg #[.slice pa pns pcap,.slice pb pnm pcap2,.slice pd pnt pcap3]) (S:=Instr.loadAt 26 (.pointer (some ⟨k3,0,none⟩))) (fun W hk=>ld_box hb3 (by kernel_rfl) (by kernel_rfl) hk) ?_
 refine rk ?_
 refine gX [.agg #[.slice ua uns ucap,.slice ub unm ucap2,.slice ud unt ucap3],.agg #[.slice pa pns pcap,.slice pb pnm pcap2,.slice pd pnt pcap3]] (.bool true) (fun W hk=>by have:=sameProgram_any p p [.slice ua uns ucap,.slice ub unm ucap2,.slice ud unt ucap3] [.slice pa pns pcap,.slice pb pnm pcap2,.slice pd pnt pcap3] W (by omega) (PA W hk) (PP W hk);rw [sameB_t.2 rfl] at this;exact this) ?_
 refine rk ?_
 refine gV (.agg #[.int .u8 fop,.int .u8 fty,.int .u64 fbits,.string (str fn),.slice fa fka fec]) (S:=Instr.loadAt 34 (.pointer (some ⟨k8,0,none⟩))) (fun W hk=>ld_box hb8 (by kernel_rfl) (by kernel_rfl) hk) ?_
 refine rk ?_
 refine gV (.agg #[.int .u8 eop,.int .u8 ety,.int .u64 ebits,.string (str en),.slice ea eka eec]) (S:=Instr.loadAt 34 (.pointer (some ⟨k4,0,none⟩))) (fun W hk=>ld_box hb4 (by kernel_rfl) (by kernel_rfl) hk) ?_
 refine rk ?_
 refine gX [.agg #[.int .u8 fop,.int .u8 fty,.int .u64 fbits,.string (str fn),.slice fa fka fec],.agg #[.int .u8 eop,.int .u8 ety,.int .u64 ebits,.string (str en),.slice ea eka eec]] (.bool true) (fun W hk=>by have:=sameExpr_any _ e e [.int .u8 fop,.int .u8 fty,.int .u64 fbits,.string (str fn),.slice fa fka fec] [.int .u8 eop,.int .u8 ety,.int .u64 ebits,.string (str en),.slice ea eka eec] W (Nat.le_refl _) (by omega) (PG W hk) (PE W hk);rw [sameEx_t.2 rfl] at this;exact this) ?_
 refine rk ?_
 refine gX [] (.bool true) (fun W hk=>awake05_any W (ht.below (hk00.trans (hk.mono hB00)).below)) ?_
 refine rk ?_
 refine gR (.bool true) (fun W hk=>⟨rfl,(hk00.trans (hk.mono hB00)).below⟩)
end Go.Proofs.YtiacalnkmnckjaaGreatDoor
end
section
namespace Go.Proofs.YtiacalnkmnckjaaGreatDoor
open Go.RowKit Go.As
theorem nls_le:∀ (l:List (List UInt8)),nls l≤sumN txB l
 | []=>Nat.le_refl _
 | s::l=>by
   have:=nls_le l
   simp only [nls,sumN,txB]
   omega
theorem vls_le:∀ (l:List Vr),vls l≤sumN vrB l
 | []=>Nat.le_refl _
 | s::l=>by
   have:=vls_le l
   simp only [vls,sumN,vrB]
   omega
theorem tls_le:∀ (l:List Th),tls l≤sumN thB l
 | []=>Nat.le_refl _
 | s::l=>by
   have:=tls_le l
   have:=vls_le s.locals
   simp only [tls,sumN,thB]
   omega
theorem pg_names {x:Pg} (hx:pgB x≤1048576):nls x.mutexes+vls x.shared+tls x.threads≤1000000000000:=by
 have h1:=nls_le x.mutexes
 have h2:=vls_le x.shared
 have h3:=tls_le x.threads
 unfold pgB at hx
 omega
theorem ex_openA {H:Type} {enc:TypeId×Value→H} {w:World} {held:Bool} {n:Nat} {cs:List Value} {d:DataW H} {p:List MemPlace} (h:DataW.trod enc Tryz.prog w 0 (fun _=>true) held n 34 cs=some (d,p)):
  ∃ e,(ExAt (·<w.heap.size) w e cs∧exR e)∧exB e≤Rows.uptoBulk d:=
 let ⟨e,h1,h2,h3⟩:=ex_open _ (Nat.lt_succ_self _) h
 ⟨e,⟨h1,h2⟩,h3⟩
theorem val_openA {H:Type} {enc:TypeId×Value→H} {w:World} {held:Bool} {n:Nat} {cs:List Value} {d:DataW H} {p:List MemPlace} (h:DataW.trod enc Tryz.prog w 0 (fun _=>true) held n 31 cs=some (d,p)):
  ∃ v:Int×Nat,(cs=[.int .u8 v.1,.int .u64 (v.2:Int)]∧v.2<18446744073709551616∧0≤v.1∧v.1<256)∧3≤Rows.uptoBulk d:=by
 obtain ⟨ty,bits,h1,h2,h3,h4⟩:=val_open h
 refine ⟨(ty,bits.toNat),⟨?_,by omega,h2.1,h2.2⟩,by omega⟩
 rw [h1,Int.toNat_of_nonneg h3.1]
open Go.Sy in
set_option maxRecDepth 100000 in
theorem treePrints_any (p:Pg) (e:Ex) (w:World) (ht:Tab w) (hbd:pgB p+exB e≤1048576) (hpR:pgR p) (heR:exR e)
  {pa pb pd:Option Addr} {pns pnm pnt pcap pcap2 pcap3:Nat} {eop ety ebits:Int} {en:List UInt8} {ekids:List Ex} {ea:Option Addr} {eka eec:Nat} {vty:Int} {vn:Nat} (he:e = .mk eop ety ebits en ekids) (hvn:vn<18446744073709551616)
  (hp:PgAt (·<w.heap.size) w p [.slice pa pns pcap,.slice pb pnm pcap2,.slice pd pnt pcap3]) (hex:ExAt (·<w.heap.size) w e [.int .u8 eop,.int .u8 ety,.int .u64 ebits,.string (str en),.slice ea eka eec]):
  Calls Tryz.prog 3 #[.agg #[.slice pa pns pcap,.slice pb pnm pcap2,.slice pd pnt pcap3],.agg #[.int .u8 eop,.int .u8 ety,.int .u64 ebits,.string (str en),.slice ea eka eec],.agg #[.int .u8 vty,.int .u64 (vn:Int)]] w (fun r w'=>r = .returned (.bool true)∧Below w.heap.size w w'):=by
 have hwp:=pwt_pgB p
 have hwe:=wgt_exB e
 have PP:∀ W,Keep (·<w.heap.size) w W→PgAt (·<W.heap.size) W p [.slice pa pns pcap,.slice pb pnm pcap2,.slice pd pnt pcap3]:=fun W hk=>hp.keep hk fun k h=>Nat.lt_of_lt_of_le h hk.size
 have PE:∀ W,Keep (·<w.heap.size) w W→ExAt (·<W.heap.size) W e [.int .u8 eop,.int .u8 ety,.int .u64 ebits,.string (str en),.slice ea eka eec]:=fun W hk=>hex.keep hk fun k h=>Nat.lt_of_lt_of_le h hk.size
 refine Sy.enter (vs:=[.agg #[.slice pa pns pcap,.slice pb pnm pcap2,.slice pd pnt pcap3],.agg #[.int .u8 eop,.int .u8 ety,.int .u64 ebits,.string (str en),.slice ea eka eec],.agg #[.int .u8 vty,.int .u64 (vn:Int)]]) sy_fine Tryz.func3 rfl (fun γ=>norms_LR _) rfl (fun γ0 hγ0=>?_)
 refine rk ?_
 rcases Bool.eq_false_or_eq_true (lrg p) with hpl | hpl
 ·
  refine gX [.agg #[.slice pa pns pcap,.slice pb pnm pcap2,.slice pd pnt pcap3]] (.bool true) (fun W hk=>by rw [← hpl];exact large_any p [.slice pa pns pcap,.slice pb pnm pcap2,.slice pd pnt pcap3] W (by omega) (pg_names (by omega)) (PP W hk)) ?_
  refine rs [] 60 4 ?_
  refine gR (.bool true) (fun W hk=>⟨rfl,hk.below⟩)
 refine gX [.agg #[.slice pa pns pcap,.slice pb pnm pcap2,.slice pd pnt pcap3]] (.bool false) (fun W hk=>by rw [← hpl];exact large_any p [.slice pa pns pcap,.slice pb pnm pcap2,.slice pd pnt pcap3] W (by omega) (pg_names (by omega)) (PP W hk)) ?_
 refine rk ?_
 refine gX [.agg #[.int .u8 eop,.int .u8 ety,.int .u64 ebits,.string (str en),.slice ea eka eec]] (.int .i64 (wgt e:Nat)) (fun W hk=>weight_any _ e [.int .u8 eop,.int .u8 ety,.int .u64 ebits,.string (str en),.slice ea eka eec] W (Nat.le_refl _) (by omega) (PE W hk)) ?_
 refine rk ?_
 by_cases h3:(3000:Int)<(wgt e:Nat)
 ·
  refine gK true (b:=intLt 3000 (wgt e:Nat)) (lt_t h3) ?_
  refine rs [] 60 4 ?_
  refine gR (.bool true) (fun W hk=>⟨rfl,hk.below⟩)
 refine gK false (b:=intLt 3000 (wgt e:Nat)) (lt_f h3) ?_
 refine gG 3 gz 26 [.slice pa pns pcap,.slice pb pnm pcap2,.slice pd pnt pcap3] (fun k3 wa Ba hka hBa hBk3 hnk3 hsa hh3=>?_)
 refine gG 4 (gz+1) 34 [.int .u8 eop,.int .u8 ety,.int .u64 ebits,.string (str en),.slice ea eka eec] (fun k4 wb Bb hkb hBb hBk4 hnk4 hsb hh4=>?_)
 refine gG 5 (gz+2) 31 [.int .u8 vty,.int .u64 (vn:Int)] (fun k5 w1 B1 hkc hBc hBk5 hnk5 hB1 hh5=>?_)
 have hk1:Keep (·<w.heap.size) w w1:=hka.trans ((hkb.trans (hkc.mono hBb)).mono hBa)
 have hB01:∀ k,k<w.heap.size→B1 k:=fun k h=>hBc k (hBb k (hBa k h))
 have hb5:=box_sl hh5 hBk5 (n:=2) rfl
 have hb4:=((box_sl hh4 hBk4 (n:=5) rfl).keep hkc).mono hBc
 have hb3:=((((box_sl hh3 hBk3 (n:=3) rfl).keep hkb).mono hBb).keep hkc).mono hBc
 have PP1:∀ W,Keep B1 w1 W→PgAt (·<W.heap.size) W p [.slice pa pns pcap,.slice pb pnm pcap2,.slice pd pnt pcap3]:=fun W hk=>PP W (hk1.trans (hk.mono hB01))
 have PE1:∀ W,Keep B1 w1 W→ExAt (·<W.heap.size) W e [.int .u8 eop,.int .u8 ety,.int .u64 ebits,.string (str en),.slice ea eka eec]:=fun W hk=>PE W (hk1.trans (hk.mono hB01))
 refine rs [] 2 0 ?_
 refine good_plan sy_mixed (.take 0 (.take 2 (.alt (.run 1 (.alt (.run 3 (.alt (.run 4 (.run 5 (.run 6 .done))) (.run 5 (.run 4 (.run 6 .done))))) (.alt (.run 4 (.alt (.run 3 (.run 5 (.run 6 .done))) (.run 5 (.run 3 (.run 6 .done))))) (.run 5 (.alt (.run 3 (.run 4 (.run 6 .done))) (.run 4 (.run 3 (.run 6 .done)))))))) (.alt (.run 4 (.alt (.run 1 (.alt (.run 3 (.run 5 (.run 6 .done))) (.run 5 (.run 3 (.run 6 .done))))) (.run 5 (.run 1 (.run 3 (.run 6 .done)))))) (.run 5 (.alt (.run 1 (.alt (.run 3 (.run 4 (.run 6 .done))) (.run 4 (.run 3 (.run 6 .done))))) (.run 4 (.run 1 (.run 3 (.run 6 .done)))))))))) 7 (by kernel_rfl) ?_
 refine p_val (.agg #[.slice pa pns pcap,.slice pb pnm pcap2,.slice pd pnt pcap3]) (S:=Instr.loadAt 26 (.pointer (some ⟨k3,0,none⟩))) (Bs:=B1) (ws:=w1) (by kernel_rfl) (by kernel_rfl) (fun _ h=>h) (fun W hk=>ld_box hb3 (by kernel_rfl) (by kernel_rfl) hk) ?_
 refine p_val (.agg #[.int .u8 eop,.int .u8 ety,.int .u64 ebits,.string (str en),.slice ea eka eec]) (S:=Instr.loadAt 34 (.pointer (some ⟨k4,0,none⟩))) (Bs:=B1) (ws:=w1) (by kernel_rfl) (by kernel_rfl) (fun _ h=>h) (fun W hk=>ld_box hb4 (by kernel_rfl) (by kernel_rfl) hk) ?_
 refine p_alt (by kernel_rfl) ?a0 ?b0
 case' a0=>
  refine pR (Keep B1 w1) (fun _ h=>h) ?_
  refine gM [.agg #[.slice pa pns pcap,.slice pb pnm pcap2,.slice pd pnt pcap3]] (fun W hk=>copyProgram_any p [.slice pa pns pcap,.slice pb pnm pcap2,.slice pd pnt pcap3] W (by omega) (PP1 W ((fun _ h=>h) W hk))) ?_
  rintro wcu r w2 B2 hkcu ⟨du,rfl,hdu⟩ hbcu hk12 hB12 hBn2 hB2
  have hS2:∀ W,Keep B2 w2 W→Keep B1 w1 W:=fun W hk=>(fun _ h=>h) W (hk12.trans (hk.mono hB12))
  have hdu0:=hdu
  obtain ⟨ua,ucap,_,ub,ucap2,_,ud,ucap3,_,rfl,_⟩:=hdu0
  refine rk ?_
  refine p_alt (by kernel_rfl) ?a1 ?b1
  case' a1=>
   refine pR (Keep B1 w1) hS2 ?_
   refine gM [.agg #[.int .u8 eop,.int .u8 ety,.int .u64 ebits,.string (str en),.slice ea eka eec]] (fun W hk=>copyExpr_any _ e [.int .u8 eop,.int .u8 ety,.int .u64 ebits,.string (str en),.slice ea eka eec] W (Nat.le_refl _) (by omega) (PE1 W (hS2 W hk))) ?_
   rintro wcv r w3 B3 hkcv ⟨dv,rfl,hdv⟩ hbcv hk23 hB23 hBn3 hB3
   have hS3:∀ W,Keep B3 w3 W→Keep B1 w1 W:=fun W hk=>hS2 W (hk23.trans (hk.mono hB23))
   have hdv0:=hdv
   rw [he] at hdv0
   simp only [ExAt] at hdv0
   obtain ⟨fa,fec,_,rfl,_⟩:=hdv0
   refine rk ?_
   refine p_alt (by kernel_rfl) ?a2 ?b2
   case' a2=>
    refine pR (Keep B1 w1) hS3 ?_
    refine rk ?_
    refine pR (Keep B1 w1) hS3 ?_
    refine rk ?_
    refine pR (Keep B1 w1) hS3 ?_
    refine rk ?_
    refine p_done (by kernel_rfl) ?_ (Keep B1 w1) (by kernel_rfl) hS3
    refine rs [] 3 0 ?_
    have v1:=True.intro
   case' b2=>
    refine pR (Keep B1 w1) hS3 ?_
    refine rk ?_
    refine pR (Keep B1 w1) hS3 ?_
    refine rk ?_
    refine pR (Keep B1 w1) hS3 ?_
    refine rk ?_
    refine p_done (by kernel_rfl) ?_ (Keep B1 w1) (by kernel_rfl) hS3
    refine rs [] 3 0 ?_
    have v2:=True.intro
  case' b1=>
   refine p_alt (by kernel_rfl) ?a3 ?b3
   case' a3=>
    refine pR (Keep B1 w1) hS2 ?_
    refine rk ?_
    refine p_alt (by kernel_rfl) ?a4 ?b4
    case' a4=>
     refine pR (Keep B1 w1) hS2 ?_
     refine gM [.agg #[.int .u8 eop,.int .u8 ety,.int .u64 ebits,.string (str en),.slice ea eka eec]] (fun W hk=>copyExpr_any _ e [.int .u8 eop,.int .u8 ety,.int .u64 ebits,.string (str en),.slice ea eka eec] W (Nat.le_refl _) (by omega) (PE1 W (hS2 W hk))) ?_
     rintro wcv r w3 B3 hkcv ⟨dv,rfl,hdv⟩ hbcv hk23 hB23 hBn3 hB3
     have hS3:∀ W,Keep B3 w3 W→Keep B1 w1 W:=fun W hk=>hS2 W (hk23.trans (hk.mono hB23))
     have hdv0:=hdv
     rw [he] at hdv0
     simp only [ExAt] at hdv0
     obtain ⟨fa,fec,_,rfl,_⟩:=hdv0
     refine rk ?_
     refine pR (Keep B1 w1) hS3 ?_
     refine rk ?_
     refine pR (Keep B1 w1) hS3 ?_
     refine rk ?_
     refine p_done (by kernel_rfl) ?_ (Keep B1 w1) (by kernel_rfl) hS3
     refine rs [] 3 0 ?_
     have v1:=True.intro
    case' b4=>
     refine pR (Keep B1 w1) hS2 ?_
     refine rk ?_
     refine pR (Keep B1 w1) hS2 ?_
     refine gM [.agg #[.int .u8 eop,.int .u8 ety,.int .u64 ebits,.string (str en),.slice ea eka eec]] (fun W hk=>copyExpr_any _ e [.int .u8 eop,.int .u8 ety,.int .u64 ebits,.string (str en),.slice ea eka eec] W (Nat.le_refl _) (by omega) (PE1 W (hS2 W hk))) ?_
     rintro wcv r w3 B3 hkcv ⟨dv,rfl,hdv⟩ hbcv hk23 hB23 hBn3 hB3
     have hS3:∀ W,Keep B3 w3 W→Keep B1 w1 W:=fun W hk=>hS2 W (hk23.trans (hk.mono hB23))
     have hdv0:=hdv
     rw [he] at hdv0
     simp only [ExAt] at hdv0
     obtain ⟨fa,fec,_,rfl,_⟩:=hdv0
     refine rk ?_
     refine pR (Keep B1 w1) hS3 ?_
     refine rk ?_
     refine p_done (by kernel_rfl) ?_ (Keep B1 w1) (by kernel_rfl) hS3
     refine rs [] 3 0 ?_
     have v1:=True.intro
   case' b3=>
    refine pR (Keep B1 w1) hS2 ?_
    refine rk ?_
    refine p_alt (by kernel_rfl) ?a5 ?b5
    case' a5=>
     refine pR (Keep B1 w1) hS2 ?_
     refine gM [.agg #[.int .u8 eop,.int .u8 ety,.int .u64 ebits,.string (str en),.slice ea eka eec]] (fun W hk=>copyExpr_any _ e [.int .u8 eop,.int .u8 ety,.int .u64 ebits,.string (str en),.slice ea eka eec] W (Nat.le_refl _) (by omega) (PE1 W (hS2 W hk))) ?_
     rintro wcv r w3 B3 hkcv ⟨dv,rfl,hdv⟩ hbcv hk23 hB23 hBn3 hB3
     have hS3:∀ W,Keep B3 w3 W→Keep B1 w1 W:=fun W hk=>hS2 W (hk23.trans (hk.mono hB23))
     have hdv0:=hdv
     rw [he] at hdv0
     simp only [ExAt] at hdv0
     obtain ⟨fa,fec,_,rfl,_⟩:=hdv0
     refine rk ?_
     refine pR (Keep B1 w1) hS3 ?_
     refine rk ?_
     refine pR (Keep B1 w1) hS3 ?_
     refine rk ?_
     refine p_done (by kernel_rfl) ?_ (Keep B1 w1) (by kernel_rfl) hS3
     refine rs [] 3 0 ?_
     have v2:=True.intro
    case' b5=>
     refine pR (Keep B1 w1) hS2 ?_
     refine rk ?_
     refine pR (Keep B1 w1) hS2 ?_
     refine gM [.agg #[.int .u8 eop,.int .u8 ety,.int .u64 ebits,.string (str en),.slice ea eka eec]] (fun W hk=>copyExpr_any _ e [.int .u8 eop,.int .u8 ety,.int .u64 ebits,.string (str en),.slice ea eka eec] W (Nat.le_refl _) (by omega) (PE1 W (hS2 W hk))) ?_
     rintro wcv r w3 B3 hkcv ⟨dv,rfl,hdv⟩ hbcv hk23 hB23 hBn3 hB3
     have hS3:∀ W,Keep B3 w3 W→Keep B1 w1 W:=fun W hk=>hS2 W (hk23.trans (hk.mono hB23))
     have hdv0:=hdv
     rw [he] at hdv0
     simp only [ExAt] at hdv0
     obtain ⟨fa,fec,_,rfl,_⟩:=hdv0
     refine rk ?_
     refine pR (Keep B1 w1) hS3 ?_
     refine rk ?_
     refine p_done (by kernel_rfl) ?_ (Keep B1 w1) (by kernel_rfl) hS3
     refine rs [] 3 0 ?_
     have v2:=True.intro
 case' b0=>
  refine p_alt (by kernel_rfl) ?a6 ?b6
  case' a6=>
   refine pR (Keep B1 w1) (fun _ h=>h) ?_
   refine rk ?_
   refine p_alt (by kernel_rfl) ?a7 ?b7
   case' a7=>
    refine pR (Keep B1 w1) (fun _ h=>h) ?_
    refine gM [.agg #[.slice pa pns pcap,.slice pb pnm pcap2,.slice pd pnt pcap3]] (fun W hk=>copyProgram_any p [.slice pa pns pcap,.slice pb pnm pcap2,.slice pd pnt pcap3] W (by omega) (PP1 W ((fun _ h=>h) W hk))) ?_
    rintro wcu r w2 B2 hkcu ⟨du,rfl,hdu⟩ hbcu hk12 hB12 hBn2 hB2
    have hS2:∀ W,Keep B2 w2 W→Keep B1 w1 W:=fun W hk=>(fun _ h=>h) W (hk12.trans (hk.mono hB12))
    have hdu0:=hdu
    obtain ⟨ua,ucap,_,ub,ucap2,_,ud,ucap3,_,rfl,_⟩:=hdu0
    refine rk ?_
    refine p_alt (by kernel_rfl) ?a8 ?b8
    case' a8=>
     refine pR (Keep B1 w1) hS2 ?_
     refine gM [.agg #[.int .u8 eop,.int .u8 ety,.int .u64 ebits,.string (str en),.slice ea eka eec]] (fun W hk=>copyExpr_any _ e [.int .u8 eop,.int .u8 ety,.int .u64 ebits,.string (str en),.slice ea eka eec] W (Nat.le_refl _) (by omega) (PE1 W (hS2 W hk))) ?_
     rintro wcv r w3 B3 hkcv ⟨dv,rfl,hdv⟩ hbcv hk23 hB23 hBn3 hB3
     have hS3:∀ W,Keep B3 w3 W→Keep B1 w1 W:=fun W hk=>hS2 W (hk23.trans (hk.mono hB23))
     have hdv0:=hdv
     rw [he] at hdv0
     simp only [ExAt] at hdv0
     obtain ⟨fa,fec,_,rfl,_⟩:=hdv0
     refine rk ?_
     refine pR (Keep B1 w1) hS3 ?_
     refine rk ?_
     refine pR (Keep B1 w1) hS3 ?_
     refine rk ?_
     refine p_done (by kernel_rfl) ?_ (Keep B1 w1) (by kernel_rfl) hS3
     refine rs [] 3 0 ?_
     have v1:=True.intro
    case' b8=>
     refine pR (Keep B1 w1) hS2 ?_
     refine rk ?_
     refine pR (Keep B1 w1) hS2 ?_
     refine gM [.agg #[.int .u8 eop,.int .u8 ety,.int .u64 ebits,.string (str en),.slice ea eka eec]] (fun W hk=>copyExpr_any _ e [.int .u8 eop,.int .u8 ety,.int .u64 ebits,.string (str en),.slice ea eka eec] W (Nat.le_refl _) (by omega) (PE1 W (hS2 W hk))) ?_
     rintro wcv r w3 B3 hkcv ⟨dv,rfl,hdv⟩ hbcv hk23 hB23 hBn3 hB3
     have hS3:∀ W,Keep B3 w3 W→Keep B1 w1 W:=fun W hk=>hS2 W (hk23.trans (hk.mono hB23))
     have hdv0:=hdv
     rw [he] at hdv0
     simp only [ExAt] at hdv0
     obtain ⟨fa,fec,_,rfl,_⟩:=hdv0
     refine rk ?_
     refine pR (Keep B1 w1) hS3 ?_
     refine rk ?_
     refine p_done (by kernel_rfl) ?_ (Keep B1 w1) (by kernel_rfl) hS3
     refine rs [] 3 0 ?_
     have v1:=True.intro
   case' b7=>
    refine pR (Keep B1 w1) (fun _ h=>h) ?_
    refine rk ?_
    refine pR (Keep B1 w1) (fun _ h=>h) ?_
    refine gM [.agg #[.slice pa pns pcap,.slice pb pnm pcap2,.slice pd pnt pcap3]] (fun W hk=>copyProgram_any p [.slice pa pns pcap,.slice pb pnm pcap2,.slice pd pnt pcap3] W (by omega) (PP1 W ((fun _ h=>h) W hk))) ?_
    rintro wcu r w2 B2 hkcu ⟨du,rfl,hdu⟩ hbcu hk12 hB12 hBn2 hB2
    have hS2:∀ W,Keep B2 w2 W→Keep B1 w1 W:=fun W hk=>(fun _ h=>h) W (hk12.trans (hk.mono hB12))
    have hdu0:=hdu
    obtain ⟨ua,ucap,_,ub,ucap2,_,ud,ucap3,_,rfl,_⟩:=hdu0
    refine rk ?_
    refine pR (Keep B1 w1) hS2 ?_
    refine gM [.agg #[.int .u8 eop,.int .u8 ety,.int .u64 ebits,.string (str en),.slice ea eka eec]] (fun W hk=>copyExpr_any _ e [.int .u8 eop,.int .u8 ety,.int .u64 ebits,.string (str en),.slice ea eka eec] W (Nat.le_refl _) (by omega) (PE1 W (hS2 W hk))) ?_
    rintro wcv r w3 B3 hkcv ⟨dv,rfl,hdv⟩ hbcv hk23 hB23 hBn3 hB3
    have hS3:∀ W,Keep B3 w3 W→Keep B1 w1 W:=fun W hk=>hS2 W (hk23.trans (hk.mono hB23))
    have hdv0:=hdv
    rw [he] at hdv0
    simp only [ExAt] at hdv0
    obtain ⟨fa,fec,_,rfl,_⟩:=hdv0
    refine rk ?_
    refine pR (Keep B1 w1) hS3 ?_
    refine rk ?_
    refine p_done (by kernel_rfl) ?_ (Keep B1 w1) (by kernel_rfl) hS3
    refine rs [] 3 0 ?_
    have v1:=True.intro
  case' b6=>
   refine pR (Keep B1 w1) (fun _ h=>h) ?_
   refine rk ?_
   refine p_alt (by kernel_rfl) ?a9 ?b9
   case' a9=>
    refine pR (Keep B1 w1) (fun _ h=>h) ?_
    refine gM [.agg #[.slice pa pns pcap,.slice pb pnm pcap2,.slice pd pnt pcap3]] (fun W hk=>copyProgram_any p [.slice pa pns pcap,.slice pb pnm pcap2,.slice pd pnt pcap3] W (by omega) (PP1 W ((fun _ h=>h) W hk))) ?_
    rintro wcu r w2 B2 hkcu ⟨du,rfl,hdu⟩ hbcu hk12 hB12 hBn2 hB2
    have hS2:∀ W,Keep B2 w2 W→Keep B1 w1 W:=fun W hk=>(fun _ h=>h) W (hk12.trans (hk.mono hB12))
    have hdu0:=hdu
    obtain ⟨ua,ucap,_,ub,ucap2,_,ud,ucap3,_,rfl,_⟩:=hdu0
    refine rk ?_
    refine p_alt (by kernel_rfl) ?a10 ?b10
    case' a10=>
     refine pR (Keep B1 w1) hS2 ?_
     refine gM [.agg #[.int .u8 eop,.int .u8 ety,.int .u64 ebits,.string (str en),.slice ea eka eec]] (fun W hk=>copyExpr_any _ e [.int .u8 eop,.int .u8 ety,.int .u64 ebits,.string (str en),.slice ea eka eec] W (Nat.le_refl _) (by omega) (PE1 W (hS2 W hk))) ?_
     rintro wcv r w3 B3 hkcv ⟨dv,rfl,hdv⟩ hbcv hk23 hB23 hBn3 hB3
     have hS3:∀ W,Keep B3 w3 W→Keep B1 w1 W:=fun W hk=>hS2 W (hk23.trans (hk.mono hB23))
     have hdv0:=hdv
     rw [he] at hdv0
     simp only [ExAt] at hdv0
     obtain ⟨fa,fec,_,rfl,_⟩:=hdv0
     refine rk ?_
     refine pR (Keep B1 w1) hS3 ?_
     refine rk ?_
     refine pR (Keep B1 w1) hS3 ?_
     refine rk ?_
     refine p_done (by kernel_rfl) ?_ (Keep B1 w1) (by kernel_rfl) hS3
     refine rs [] 3 0 ?_
     have v2:=True.intro
    case' b10=>
     refine pR (Keep B1 w1) hS2 ?_
     refine rk ?_
     refine pR (Keep B1 w1) hS2 ?_
     refine gM [.agg #[.int .u8 eop,.int .u8 ety,.int .u64 ebits,.string (str en),.slice ea eka eec]] (fun W hk=>copyExpr_any _ e [.int .u8 eop,.int .u8 ety,.int .u64 ebits,.string (str en),.slice ea eka eec] W (Nat.le_refl _) (by omega) (PE1 W (hS2 W hk))) ?_
     rintro wcv r w3 B3 hkcv ⟨dv,rfl,hdv⟩ hbcv hk23 hB23 hBn3 hB3
     have hS3:∀ W,Keep B3 w3 W→Keep B1 w1 W:=fun W hk=>hS2 W (hk23.trans (hk.mono hB23))
     have hdv0:=hdv
     rw [he] at hdv0
     simp only [ExAt] at hdv0
     obtain ⟨fa,fec,_,rfl,_⟩:=hdv0
     refine rk ?_
     refine pR (Keep B1 w1) hS3 ?_
     refine rk ?_
     refine p_done (by kernel_rfl) ?_ (Keep B1 w1) (by kernel_rfl) hS3
     refine rs [] 3 0 ?_
     have v2:=True.intro
   case' b9=>
    refine pR (Keep B1 w1) (fun _ h=>h) ?_
    refine rk ?_
    refine pR (Keep B1 w1) (fun _ h=>h) ?_
    refine gM [.agg #[.slice pa pns pcap,.slice pb pnm pcap2,.slice pd pnt pcap3]] (fun W hk=>copyProgram_any p [.slice pa pns pcap,.slice pb pnm pcap2,.slice pd pnt pcap3] W (by omega) (PP1 W ((fun _ h=>h) W hk))) ?_
    rintro wcu r w2 B2 hkcu ⟨du,rfl,hdu⟩ hbcu hk12 hB12 hBn2 hB2
    have hS2:∀ W,Keep B2 w2 W→Keep B1 w1 W:=fun W hk=>(fun _ h=>h) W (hk12.trans (hk.mono hB12))
    have hdu0:=hdu
    obtain ⟨ua,ucap,_,ub,ucap2,_,ud,ucap3,_,rfl,_⟩:=hdu0
    refine rk ?_
    refine pR (Keep B1 w1) hS2 ?_
    refine gM [.agg #[.int .u8 eop,.int .u8 ety,.int .u64 ebits,.string (str en),.slice ea eka eec]] (fun W hk=>copyExpr_any _ e [.int .u8 eop,.int .u8 ety,.int .u64 ebits,.string (str en),.slice ea eka eec] W (Nat.le_refl _) (by omega) (PE1 W (hS2 W hk))) ?_
    rintro wcv r w3 B3 hkcv ⟨dv,rfl,hdv⟩ hbcv hk23 hB23 hBn3 hB3
    have hS3:∀ W,Keep B3 w3 W→Keep B1 w1 W:=fun W hk=>hS2 W (hk23.trans (hk.mono hB23))
    have hdv0:=hdv
    rw [he] at hdv0
    simp only [ExAt] at hdv0
    obtain ⟨fa,fec,_,rfl,_⟩:=hdv0
    refine rk ?_
    refine pR (Keep B1 w1) hS3 ?_
    refine rk ?_
    refine p_done (by kernel_rfl) ?_ (Keep B1 w1) (by kernel_rfl) hS3
    refine rs [] 3 0 ?_
    have v2:=True.intro
 all_goals
  first
  | clear v1
    refine gG 7 (gz+3) 26 [.slice ua p.shared.length ucap,.slice ub p.mutexes.length ucap2,.slice ud p.threads.length ucap3] (fun k7 we Be hke hBe hBk7 hnk7 hse hh7=>?_)
    refine gG 8 (gz+4) 34 [.int .u8 eop,.int .u8 ety,.int .u64 ebits,.string (str en),.slice fa ekids.length fec] (fun k8 wf Bf hkf hBf hBk8 hnk8 hsf hh8=>?_)
    have hkf3:Keep B3 w3 wf:=hke.trans (hkf.mono hBe)
    have hB3f:∀ k,B3 k→Bf k:=fun k h=>hBf k (hBe k h)
    have hkf2:Keep B2 w2 wf:=hk23.trans (hkf3.mono hB23)
    have hB2f:∀ k,B2 k→Bf k:=fun k h=>hB3f k (hB23 k h)
    have hkf1:Keep B1 w1 wf:=hk12.trans (hkf2.mono hB12)
    have hB1f:∀ k,B1 k→Bf k:=fun k h=>hB2f k (hB12 k h)
    exact gU [.code (seqR (seqR (seqR (Tryz.f3.body.getD .skip))))] [(3,.v (.pointer (some ⟨k3,0,none⟩))),(4,.v (.pointer (some ⟨k4,0,none⟩))),(5,.v (.pointer (some ⟨k5,0,none⟩))),(6,.v (.bool false)),(7,.v (.pointer (some ⟨k7,0,none⟩))),(8,.v (.pointer (some ⟨k8,0,none⟩)))] [] (gz+5) (fun b hb=>hγ0 b (Nat.le_trans (Nat.le_add_right _ _) hb))
     (prints_tail p e w ht hbd hpR heR Bf wf γ0 (fun b hb=>hγ0 b (Nat.le_trans (Nat.le_add_right _ _) hb)) (hk1.trans (hkf1.mono hB01)) (fun k h=>hB1f k (hB01 k h)) hsf k3 k4 k5 k7 k8 hvn
      ((hb3.keep hkf1).mono hB1f) ((hb4.keep hkf1).mono hB1f) ((hb5.keep hkf1).mono hB1f) (((box_sl hh7 hBk7 (n:=3) rfl).keep hkf).mono hBf) (box_sl hh8 hBk8 (n:=5) rfl)
      ((hp.keep hk1 hB01).keep hkf1 hB1f) ((hex.keep hk1 hB01).keep hkf1 hB1f)
      (hdu.keep (hkf2.mono fun k h=>hBn2 k h.1 h.2) fun k h=>hB2f k (hBn2 k h.1 h.2)) (hdv.keep (hkf3.mono fun k h=>hBn3 k h.1 h.2) fun k h=>hB3f k (hBn3 k h.1 h.2)))
  | clear v2
    refine gG 7 (gz+4) 26 [.slice ua p.shared.length ucap,.slice ub p.mutexes.length ucap2,.slice ud p.threads.length ucap3] (fun k7 we Be hke hBe hBk7 hnk7 hse hh7=>?_)
    refine gG 8 (gz+3) 34 [.int .u8 eop,.int .u8 ety,.int .u64 ebits,.string (str en),.slice fa ekids.length fec] (fun k8 wf Bf hkf hBf hBk8 hnk8 hsf hh8=>?_)
    have hkf3:Keep B3 w3 wf:=hke.trans (hkf.mono hBe)
    have hB3f:∀ k,B3 k→Bf k:=fun k h=>hBf k (hBe k h)
    have hkf2:Keep B2 w2 wf:=hk23.trans (hkf3.mono hB23)
    have hB2f:∀ k,B2 k→Bf k:=fun k h=>hB3f k (hB23 k h)
    have hkf1:Keep B1 w1 wf:=hk12.trans (hkf2.mono hB12)
    have hB1f:∀ k,B1 k→Bf k:=fun k h=>hB2f k (hB12 k h)
    exact gU [.code (seqR (seqR (seqR (Tryz.f3.body.getD .skip))))] [(3,.v (.pointer (some ⟨k3,0,none⟩))),(4,.v (.pointer (some ⟨k4,0,none⟩))),(5,.v (.pointer (some ⟨k5,0,none⟩))),(6,.v (.bool false)),(7,.v (.pointer (some ⟨k7,0,none⟩))),(8,.v (.pointer (some ⟨k8,0,none⟩)))] [] (gz+5) (fun b hb=>hγ0 b (Nat.le_trans (Nat.le_add_right _ _) hb))
     (prints_tail p e w ht hbd hpR heR Bf wf γ0 (fun b hb=>hγ0 b (Nat.le_trans (Nat.le_add_right _ _) hb)) (hk1.trans (hkf1.mono hB01)) (fun k h=>hB1f k (hB01 k h)) hsf k3 k4 k5 k7 k8 hvn
      ((hb3.keep hkf1).mono hB1f) ((hb4.keep hkf1).mono hB1f) ((hb5.keep hkf1).mono hB1f) (((box_sl hh7 hBk7 (n:=3) rfl).keep hkf).mono hBf) (box_sl hh8 hBk8 (n:=5) rfl)
      ((hp.keep hk1 hB01).keep hkf1 hB1f) ((hex.keep hk1 hB01).keep hkf1 hB1f)
      (hdu.keep (hkf2.mono fun k h=>hBn2 k h.1 h.2) fun k h=>hB2f k (hBn2 k h.1 h.2)) (hdv.keep (hkf3.mono fun k h=>hBn3 k h.1 h.2) fun k h=>hB3f k (hBn3 k h.1 h.2)))
theorem treePrints_walk (w:World) (ht:Tab w) (p:Pg) (c0:List Value) (o0:PgAt (·<w.heap.size) w p c0∧pgR p) (e:Ex) (c1:List Value) (o1:ExAt (·<w.heap.size) w e c1∧exR e) (v:Int×Nat) (c2:List Value) (o2:c2=[.int .u8 v.1,.int .u64 (v.2:Int)]∧v.2<18446744073709551616∧0≤v.1∧v.1<256) (hbd:pgB p+exB e≤1048576):
  Calls Tryz.prog 3 #[.agg c0.toArray,.agg c1.toArray,.agg c2.toArray] w (fun r w'=>r = .returned (.bool true)∧Below w.heap.size w w'):=by
 obtain ⟨hp,hpR⟩:=o0
 obtain ⟨he,heR⟩:=o1
 obtain ⟨rfl,hv,_,_⟩:=o2
 have hp0:=hp
 have he0:=he
 obtain ⟨_,_,_,_,_,_,_,_,_,rfl,_⟩:=hp0
 cases e
 simp only [ExAt] at he0
 obtain ⟨_,_,_,rfl,_⟩:=he0
 exact treePrints_any p _ w ht hbd hpR heR rfl hv hp he
end Go.Proofs.YtiacalnkmnckjaaGreatDoor
end
