/- Texts of this proof, one behind the other. Conditions: those in each theorem. -/
import Derived.Test.YtiacalnkmnckjaaGreatDoorTapQ8
import Derived.Test.YtiacalnkmnckjaaGreatDoorTapQ7
set_option linter.unusedVariables false
set_option linter.unusedSimpArgs false
section
namespace Go.Proofs.YtiacalnkmnckjaaGreatDoor
open Go.RowKit Go.As
open Go.Sy in
set_option maxRecDepth 100000 in
theorem sameStmts_any:∀ (N:Nat) (L M:List St) (a1 a2:Option Addr) (n1 n2 cap1 cap2:Nat) (xs1 xs2:List Value) (w:World),n1=L.length→n2=M.length→swts L<N→swts L≤1099511627776→
  Sy.SlAt (·<w.heap.size) w a1 n1 9 xs1→Sy.SlAt (·<w.heap.size) w a2 n2 9 xs2→LsAt (StAt (·<w.heap.size) w) L xs1→LsAt (StAt (·<w.heap.size) w) M xs2→
  Calls Tryz.prog 68 #[.slice a1 n1 cap1,.slice a2 n2 cap2] w fun r w'=>r = .returned (.bool (sameB L M))∧Below w.heap.size w w':=by
 intro N
 induction N with
 | zero=>intro L M a1 a2 n1 n2 cap1 cap2 xs1 xs2 w hn1 hn2 h;omega
 | succ N ihN=>
 intro L M a1 a2 n1 n2 cap1 cap2 xs1 xs2 w hn1 hn2 hN hbd hsl1 hsl2 hks1 hks2
 have hnl:=swts_len L
 refine Sy.enter (vs:=[.slice a1 n1 cap1,.slice a2 n2 cap2]) sy_fine Tryz.func68 rfl (fun γ=>norms_LR _) rfl (fun γ0 hγ0=>?_)
 refine rk ?_
 refine good_cond (b:=!(intEq (n1:Int) (n2:Int))) (by kernel_rfl) (fun hnn=>?_) (fun hnn=>?_)
 ·
  refine rs [] 60 2 ?_
  refine gR (.bool false) (fun W hk=>⟨?_,hk.below⟩)
  rw [sameB_f]
  intro h
  rw [intEq_eq] at hnn;simp_all
 have hnn1:n1=n2:=by rw [intEq_eq] at hnn;have:(n1:Int)=(n2:Int):=(by simpa using hnn);omega
 refine rk ?_
 refine good_toLp ?_
 refine good_loopI (fun i:List St×List St×List St=>i.2.1.length) (fun i=>L=i.1++i.2.1∧M=i.1++i.2.2) (fun i=>⟨mkT [(0,.v (.slice a1 n1 cap1)),(1,.v (.slice a2 n2 cap2)),(5,.v (.int .i64 (i.1.length:Int)))],mkH [],gz,[]⟩)
  ([],L,M) ⟨rfl,rfl⟩ (by kernel_rfl)
  (fun h=>good_sub _ [(0,.v (.slice a1 n1 cap1)),(1,.v (.slice a2 n2 cap2)),(5,.v (.int .i64 (([]:List St).length:Int)))] [] gz rfl (by kernel_rfl) (by kernel_rfl) (by kernel_rfl) (by kernel_rfl) (by kernel_rfl) (fun b hb=>hγ0 b hb) (by kernel_rfl) h) ?_
 rintro ⟨l1,l2,m2⟩ ⟨hI1,hI2⟩ ih
 simp only at hI1 hI2
 have hq1:n1=l1.length+l2.length:=by rw [hn1,hI1,List.length_append]
 have hq2:n2=l1.length+m2.length:=by rw [hn2,hI2,List.length_append]
 refine rk ?_
 cases l2 with
 | nil=>
   obtain rfl:m2=[]:=List.eq_nil_of_length_eq_zero (by simp only [List.length_nil] at hq1;omega)
   refine gK false (b:=intLt (l1.length:Int) (n1:Int)) (lt_f (by rw [hq1];simp)) ?_
   refine rk ?_
   refine gR (.bool true) (fun W hk=>⟨?_,hk.below⟩)
   rw [sameB_t.2 (by rw [hI1,hI2])]
 | cons x l3=>
   obtain ⟨y,m3,rfl⟩:∃ y m3,m2=y::m3:=by
    cases m2 with
    | nil=>simp only [List.length_nil,List.length_cons] at hq1 hq2;omega
    | cons a b=>exact ⟨a,b,rfl⟩
   have hin1:l1.length<n1:=by rw [hq1,List.length_cons];omega
   have hin2:l1.length<n2:=by omega
   have hks1':=hks1
   have hks2':=hks2
   rw [hI1] at hks1'
   rw [hI2] at hks2'
   obtain ⟨c1,hc1,hcell1⟩:=hks1'.at_ (fun _ _ h=>h.len)
   obtain ⟨c2,hc2,hcell2⟩:=hks2'.at_ (fun _ _ h=>h.len)
   refine gK true (b:=intLt (l1.length:Int) (n1:Int)) (lt_t (by omega)) ?_
   refine rk ?_
   have hwl:swts L=swts l1+(swt x+swts l3):=by rw [hI1,swts_app];simp [swts]
   obtain ⟨ukind,usn,⟨uop,uty,ubits,uen,uek⟩,ubody,uels⟩:=x
   simp only [StAt] at hc1
   obtain ⟨ucs,uba,ubc,ubx,ula,ulc,ulx,rfl,uhe,uhbs,uhbt,uhls,uhlt⟩:=hc1
   have uhe0:=uhe
   simp only [ExAt] at uhe0
   obtain ⟨uea,uec,uex,rfl,_⟩:=uhe0
   have hcell1:∀ j v,([.int .i64 ukind,.string (str usn),.int .u8 uop,.int .u8 uty,.int .u64 ubits,.string (str uen),.slice uea uek.length uec,.slice uba ubody.length ubc,.slice ula uels.length ulc]:List Value)[j]?=some v→xs1[l1.length*9+j]?=some v:=hcell1
   have umid:∀ j v,([.int .u8 uop,.int .u8 uty,.int .u64 ubits,.string (str uen),.slice uea uek.length uec]:List Value)[j]?=some v→xs1[l1.length*9+2+j]?=some v:=cell_part hcell1 2 (mid_get [_,_] [.int .u8 uop,.int .u8 uty,.int .u64 ubits,.string (str uen),.slice uea uek.length uec] [_,_])
   obtain ⟨vkind,vsn,⟨vop,vty,vbits,ven,vek⟩,vbody,vels⟩:=y
   simp only [StAt] at hc2
   obtain ⟨vcs,vba,vbc,vbx,vla,vlc,vlx,rfl,vhe,vhbs,vhbt,vhls,vhlt⟩:=hc2
   have vhe0:=vhe
   simp only [ExAt] at vhe0
   obtain ⟨vea,vec,vex,rfl,_⟩:=vhe0
   have hcell2:∀ j v,([.int .i64 vkind,.string (str vsn),.int .u8 vop,.int .u8 vty,.int .u64 vbits,.string (str ven),.slice vea vek.length vec,.slice vba vbody.length vbc,.slice vla vels.length vlc]:List Value)[j]?=some v→xs2[l1.length*9+j]?=some v:=hcell2
   have vmid:∀ j v,([.int .u8 vop,.int .u8 vty,.int .u64 vbits,.string (str ven),.slice vea vek.length vec]:List Value)[j]?=some v→xs2[l1.length*9+2+j]?=some v:=cell_part hcell2 2 (mid_get [_,_] [.int .u8 vop,.int .u8 vty,.int .u64 vbits,.string (str ven),.slice vea vek.length vec] [_,_])
   simp only [swt] at hwl
   refine good_draw sy_mixed (by kernel_rfl) ?_
   refine q_run [] 60 ?_
   refine qV (.pointer (some ⟨gB a1,oB a1+l1.length*9,none⟩)) (S:=Instr.indexAt 54 (.slice a1 n1 cap1) (.int .i64 (l1.length:Int))) (fun W _=>idx_sl (e:=56) hsl1 (by kernel_rfl) (by kernel_rfl) hin1 W) ?_
   refine q_run [] 60 ?_
   refine qV (.int .i64 ukind) (S:=Instr.loadAt 3 (.pointer (some ⟨gB a1,oB a1+l1.length*9+0,none⟩))) (fun W hk=>load_sl hsl1 (by kernel_rfl) l1.length 0 (hcell1 0 _ rfl) hk) ?_
   refine q_run [] 60 ?_
   refine qV (.pointer (some ⟨gB a2,oB a2+l1.length*9,none⟩)) (S:=Instr.indexAt 54 (.slice a2 n2 cap2) (.int .i64 (l1.length:Int))) (fun W _=>idx_sl (e:=56) hsl2 (by kernel_rfl) (by kernel_rfl) hin2 W) ?_
   refine q_run [] 60 ?_
   refine qV (.int .i64 vkind) (S:=Instr.loadAt 3 (.pointer (some ⟨gB a2,oB a2+l1.length*9+0,none⟩))) (fun W hk=>load_sl hsl2 (by kernel_rfl) l1.length 0 (hcell2 0 _ rfl) hk) ?_
   refine q_run [29] 60 ?_
   rcases Bool.eq_false_or_eq_true (intEq ukind vkind) with hk1 | hk1
   rotate_left
   ·
    refine qS 27 (x := .bool (!(intEq ukind vkind))) (.bool true) (by rw [hk1];rfl) ?_
    refine qS 28 (x := .bool (!(intEq ukind vkind))) (.bool true) (by rw [hk1];rfl) ?_
    have hne:(St.mk ukind usn (Ex.mk uop uty ubits uen uek) ubody uels)≠(St.mk vkind vsn (Ex.mk vop vty vbits ven vek) vbody vels):=by intro h;injection h;rw [intEq_eq] at hk1;simp_all
    refine q_run [] 60 ?_
    refine qE ?_
    refine rs [] 60 3 ?_
    refine gR (.bool false) (fun W hk=>⟨?_,hk.below⟩)
    rw [sameB_f]
    intro h
    rw [hI1,hI2] at h
    have h2:=(List.cons.inj (List.append_cancel_left h)).1
    exact hne h2
   refine qS 27 (x := .bool (!(intEq ukind vkind))) (.bool false) (by rw [hk1];rfl) ?_
   refine qS 28 (x := .bool (!(intEq ukind vkind))) (.bool false) (by rw [hk1];rfl) ?_
   refine q_run [] 60 ?_
   refine qV (.pointer (some ⟨gB a1,oB a1+l1.length*9,none⟩)) (S:=Instr.indexAt 54 (.slice a1 n1 cap1) (.int .i64 (l1.length:Int))) (fun W _=>idx_sl (e:=56) hsl1 (by kernel_rfl) (by kernel_rfl) hin1 W) ?_
   refine q_run [] 60 ?_
   refine qV (.string (str usn)) (S:=Instr.loadAt 9 (.pointer (some ⟨gB a1,oB a1+l1.length*9+1,none⟩))) (fun W hk=>load_sl hsl1 (by kernel_rfl) l1.length 1 (hcell1 1 _ rfl) hk) ?_
   refine q_run [] 60 ?_
   refine qV (.pointer (some ⟨gB a2,oB a2+l1.length*9,none⟩)) (S:=Instr.indexAt 54 (.slice a2 n2 cap2) (.int .i64 (l1.length:Int))) (fun W _=>idx_sl (e:=56) hsl2 (by kernel_rfl) (by kernel_rfl) hin2 W) ?_
   refine q_run [] 60 ?_
   refine qV (.string (str vsn)) (S:=Instr.loadAt 9 (.pointer (some ⟨gB a2,oB a2+l1.length*9+1,none⟩))) (fun W hk=>load_sl hsl2 (by kernel_rfl) l1.length 1 (hcell2 1 _ rfl) hk) ?_
   refine q_run [42] 60 ?_
   rcases Bool.eq_false_or_eq_true (bEqL usn vsn) with hk2 | hk2
   rotate_left
   ·
    refine qS 39 (x := .bool (!(bEqL usn vsn))) (.bool true) (by rw [hk2];rfl) ?_
    refine qS 40 (x := .bool (!(bEqL usn vsn))) (.bool true) (by rw [hk2];rfl) ?_
    refine qS 41 (x := .bool (!(bEqL usn vsn))) (.bool true) (by rw [hk2];rfl) ?_
    have hne:(St.mk ukind usn (Ex.mk uop uty ubits uen uek) ubody uels)≠(St.mk vkind vsn (Ex.mk vop vty vbits ven vek) vbody vels):=by intro h;injection h;rw [bEqL_eq] at hk2;simp_all
    refine q_run [] 60 ?_
    refine qE ?_
    refine rs [] 60 3 ?_
    refine gR (.bool false) (fun W hk=>⟨?_,hk.below⟩)
    rw [sameB_f]
    intro h
    rw [hI1,hI2] at h
    have h2:=(List.cons.inj (List.append_cancel_left h)).1
    exact hne h2
   refine qS 39 (x := .bool (!(bEqL usn vsn))) (.bool false) (by rw [hk2];rfl) ?_
   refine qS 40 (x := .bool (!(bEqL usn vsn))) (.bool false) (by rw [hk2];rfl) ?_
   refine qS 41 (x := .bool (!(bEqL usn vsn))) (.bool false) (by rw [hk2];rfl) ?_
   refine q_run [] 60 ?_
   refine qV (.pointer (some ⟨gB a1,oB a1+l1.length*9,none⟩)) (S:=Instr.indexAt 54 (.slice a1 n1 cap1) (.int .i64 (l1.length:Int))) (fun W _=>idx_sl (e:=56) hsl1 (by kernel_rfl) (by kernel_rfl) hin1 W) ?_
   refine q_run [] 60 ?_
   refine qV (.agg #[.int .u8 uop,.int .u8 uty,.int .u64 ubits,.string (str uen),.slice uea uek.length uec]) (S:=Instr.loadAt 34 (.pointer (some ⟨gB a1,oB a1+l1.length*9+2,none⟩))) (fun W hk=>load_slA (P:=Tryz.prog) (ty:=34) (m:=5) (cs:=[.int .u8 uop,.int .u8 uty,.int .u64 ubits,.string (str uen),.slice uea uek.length uec]) hsl1 (by kernel_rfl) (by kernel_rfl) l1.length 2 rfl umid hk) ?_
   refine q_run [] 60 ?_
   refine qV (.pointer (some ⟨gB a2,oB a2+l1.length*9,none⟩)) (S:=Instr.indexAt 54 (.slice a2 n2 cap2) (.int .i64 (l1.length:Int))) (fun W _=>idx_sl (e:=56) hsl2 (by kernel_rfl) (by kernel_rfl) hin2 W) ?_
   refine q_run [] 60 ?_
   refine qV (.agg #[.int .u8 vop,.int .u8 vty,.int .u64 vbits,.string (str ven),.slice vea vek.length vec]) (S:=Instr.loadAt 34 (.pointer (some ⟨gB a2,oB a2+l1.length*9+2,none⟩))) (fun W hk=>load_slA (P:=Tryz.prog) (ty:=34) (m:=5) (cs:=[.int .u8 vop,.int .u8 vty,.int .u64 vbits,.string (str ven),.slice vea vek.length vec]) hsl2 (by kernel_rfl) (by kernel_rfl) l1.length 2 rfl vmid hk) ?_
   refine q_run [] 60 ?_
   refine qB [.agg #[.int .u8 uop,.int .u8 uty,.int .u64 ubits,.string (str uen),.slice uea uek.length uec],.agg #[.int .u8 vop,.int .u8 vty,.int .u64 vbits,.string (str ven),.slice vea vek.length vec]] (.bool (sameEx (Ex.mk uop uty ubits uen uek) (Ex.mk vop vty vbits ven vek))) (fun W hk=>sameExpr_any _ (Ex.mk uop uty ubits uen uek) (Ex.mk vop vty vbits ven vek) [.int .u8 uop,.int .u8 uty,.int .u64 ubits,.string (str uen),.slice uea uek.length uec] [.int .u8 vop,.int .u8 vty,.int .u64 vbits,.string (str ven),.slice vea vek.length vec] W (Nat.le_refl _) (by omega) (uhe.keep hk (fun k h=>Nat.lt_of_lt_of_le h hk.size)) (vhe.keep hk (fun k h=>Nat.lt_of_lt_of_le h hk.size))) ?_
   refine q_run [56] 60 ?_
   rcases Bool.eq_false_or_eq_true (sameEx (Ex.mk uop uty ubits uen uek) (Ex.mk vop vty vbits ven vek)) with hk3 | hk3
   rotate_left
   ·
    refine qS 53 (x := .bool (!(sameEx (Ex.mk uop uty ubits uen uek) (Ex.mk vop vty vbits ven vek)))) (.bool true) (by rw [hk3];rfl) ?_
    refine qS 54 (x := .bool (!(sameEx (Ex.mk uop uty ubits uen uek) (Ex.mk vop vty vbits ven vek)))) (.bool true) (by rw [hk3];rfl) ?_
    refine qS 55 (x := .bool (!(sameEx (Ex.mk uop uty ubits uen uek) (Ex.mk vop vty vbits ven vek)))) (.bool true) (by rw [hk3];rfl) ?_
    have hne:(St.mk ukind usn (Ex.mk uop uty ubits uen uek) ubody uels)≠(St.mk vkind vsn (Ex.mk vop vty vbits ven vek) vbody vels):=by intro h;injection h with _ _ h _ _;rw [sameEx_t.2 h] at hk3;cases hk3
    refine q_run [] 60 ?_
    refine qE ?_
    refine rs [] 60 3 ?_
    refine gR (.bool false) (fun W hk=>⟨?_,hk.below⟩)
    rw [sameB_f]
    intro h
    rw [hI1,hI2] at h
    have h2:=(List.cons.inj (List.append_cancel_left h)).1
    exact hne h2
   refine qS 53 (x := .bool (!(sameEx (Ex.mk uop uty ubits uen uek) (Ex.mk vop vty vbits ven vek)))) (.bool false) (by rw [hk3];rfl) ?_
   refine qS 54 (x := .bool (!(sameEx (Ex.mk uop uty ubits uen uek) (Ex.mk vop vty vbits ven vek)))) (.bool false) (by rw [hk3];rfl) ?_
   refine qS 55 (x := .bool (!(sameEx (Ex.mk uop uty ubits uen uek) (Ex.mk vop vty vbits ven vek)))) (.bool false) (by rw [hk3];rfl) ?_
   refine q_run [] 60 ?_
   refine qV (.pointer (some ⟨gB a1,oB a1+l1.length*9,none⟩)) (S:=Instr.indexAt 54 (.slice a1 n1 cap1) (.int .i64 (l1.length:Int))) (fun W _=>idx_sl (e:=56) hsl1 (by kernel_rfl) (by kernel_rfl) hin1 W) ?_
   refine q_run [] 60 ?_
   refine qV (.slice uba ubody.length ubc) (S:=Instr.loadAt 54 (.pointer (some ⟨gB a1,oB a1+l1.length*9+7,none⟩))) (fun W hk=>load_sl hsl1 (by kernel_rfl) l1.length 7 (hcell1 7 _ rfl) hk) ?_
   refine q_run [] 60 ?_
   refine qV (.pointer (some ⟨gB a2,oB a2+l1.length*9,none⟩)) (S:=Instr.indexAt 54 (.slice a2 n2 cap2) (.int .i64 (l1.length:Int))) (fun W _=>idx_sl (e:=56) hsl2 (by kernel_rfl) (by kernel_rfl) hin2 W) ?_
   refine q_run [] 60 ?_
   refine qV (.slice vba vbody.length vbc) (S:=Instr.loadAt 54 (.pointer (some ⟨gB a2,oB a2+l1.length*9+7,none⟩))) (fun W hk=>load_sl hsl2 (by kernel_rfl) l1.length 7 (hcell2 7 _ rfl) hk) ?_
   refine q_run [] 60 ?_
   refine qB [.slice uba ubody.length ubc,.slice vba vbody.length vbc] (.bool (sameB ubody vbody)) (fun W hk=>ihN ubody vbody _ _ _ _ _ _ _ _ W rfl rfl (by omega) (by omega) ((uhbs.keep hk).mono (fun k h=>Nat.lt_of_lt_of_le h hk.size)) ((vhbs.keep hk).mono (fun k h=>Nat.lt_of_lt_of_le h hk.size)) (StsAt_ls.1 (uhbt.keep hk (fun k h=>Nat.lt_of_lt_of_le h hk.size))) (StsAt_ls.1 (vhbt.keep hk (fun k h=>Nat.lt_of_lt_of_le h hk.size)))) ?_
   refine q_run [70] 60 ?_
   rcases Bool.eq_false_or_eq_true (sameB ubody vbody) with hk4 | hk4
   rotate_left
   ·
    refine qS 67 (x := .bool (!(sameB ubody vbody))) (.bool true) (by rw [hk4];rfl) ?_
    refine qS 68 (x := .bool (!(sameB ubody vbody))) (.bool true) (by rw [hk4];rfl) ?_
    refine qS 69 (x := .bool (!(sameB ubody vbody))) (.bool true) (by rw [hk4];rfl) ?_
    have hne:(St.mk ukind usn (Ex.mk uop uty ubits uen uek) ubody uels)≠(St.mk vkind vsn (Ex.mk vop vty vbits ven vek) vbody vels):=by intro h;injection h with _ _ _ h _;rw [sameB_t.2 h] at hk4;cases hk4
    refine q_run [] 60 ?_
    refine qE ?_
    refine rs [] 60 3 ?_
    refine gR (.bool false) (fun W hk=>⟨?_,hk.below⟩)
    rw [sameB_f]
    intro h
    rw [hI1,hI2] at h
    have h2:=(List.cons.inj (List.append_cancel_left h)).1
    exact hne h2
   refine qS 67 (x := .bool (!(sameB ubody vbody))) (.bool false) (by rw [hk4];rfl) ?_
   refine qS 68 (x := .bool (!(sameB ubody vbody))) (.bool false) (by rw [hk4];rfl) ?_
   refine qS 69 (x := .bool (!(sameB ubody vbody))) (.bool false) (by rw [hk4];rfl) ?_
   refine q_run [] 60 ?_
   refine qV (.pointer (some ⟨gB a1,oB a1+l1.length*9,none⟩)) (S:=Instr.indexAt 54 (.slice a1 n1 cap1) (.int .i64 (l1.length:Int))) (fun W _=>idx_sl (e:=56) hsl1 (by kernel_rfl) (by kernel_rfl) hin1 W) ?_
   refine q_run [] 60 ?_
   refine qV (.slice ula uels.length ulc) (S:=Instr.loadAt 54 (.pointer (some ⟨gB a1,oB a1+l1.length*9+8,none⟩))) (fun W hk=>load_sl hsl1 (by kernel_rfl) l1.length 8 (hcell1 8 _ rfl) hk) ?_
   refine q_run [] 60 ?_
   refine qV (.pointer (some ⟨gB a2,oB a2+l1.length*9,none⟩)) (S:=Instr.indexAt 54 (.slice a2 n2 cap2) (.int .i64 (l1.length:Int))) (fun W _=>idx_sl (e:=56) hsl2 (by kernel_rfl) (by kernel_rfl) hin2 W) ?_
   refine q_run [] 60 ?_
   refine qV (.slice vla vels.length vlc) (S:=Instr.loadAt 54 (.pointer (some ⟨gB a2,oB a2+l1.length*9+8,none⟩))) (fun W hk=>load_sl hsl2 (by kernel_rfl) l1.length 8 (hcell2 8 _ rfl) hk) ?_
   refine q_run [] 60 ?_
   refine qB [.slice ula uels.length ulc,.slice vla vels.length vlc] (.bool (sameB uels vels)) (fun W hk=>ihN uels vels _ _ _ _ _ _ _ _ W rfl rfl (by omega) (by omega) ((uhls.keep hk).mono (fun k h=>Nat.lt_of_lt_of_le h hk.size)) ((vhls.keep hk).mono (fun k h=>Nat.lt_of_lt_of_le h hk.size)) (StsAt_ls.1 (uhlt.keep hk (fun k h=>Nat.lt_of_lt_of_le h hk.size))) (StsAt_ls.1 (vhlt.keep hk (fun k h=>Nat.lt_of_lt_of_le h hk.size)))) ?_
   refine q_run [] 60 ?_
   refine qE ?_
   refine rk ?_
   refine good_cond (b:=!(sameB uels vels)) (by kernel_rfl) (fun hss=>?_) (fun hss=>?_)
   ·
    have hne:(St.mk ukind usn (Ex.mk uop uty ubits uen uek) ubody uels)≠(St.mk vkind vsn (Ex.mk vop vty vbits ven vek) vbody vels):=by intro h;injection h with _ _ _ _ h;rw [sameB_t.2 h] at hss;cases hss
    refine rs [] 60 2 ?_
    refine gR (.bool false) (fun W hk=>⟨?_,hk.below⟩)
    rw [sameB_f]
    intro h
    rw [hI1,hI2] at h
    have h2:=(List.cons.inj (List.append_cancel_left h)).1
    exact hne h2
   ·
    have hxy:(St.mk ukind usn (Ex.mk uop uty ubits uen uek) ubody uels)=(St.mk vkind vsn (Ex.mk vop vty vbits ven vek) vbody vels):=by
     have h5:uels=vels:=sameB_t.1 (by simpa using hss)
     have h4:=sameB_t.1 hk4
     have h3:=sameEx_t.1 hk3
     rw [bEqL_eq] at hk2
     rw [intEq_eq] at hk1
     have h2:usn=vsn:=by simpa using hk2
     have h1:ukind=vkind:=by simpa using hk1
     rw [h1,h2,h3,h4,h5]
    refine rs [] 60 2 ?_
    refine gS 5 (x := .int .i64 (wrapF .i64 (((l1.length:Nat):Int)+1))) (.int .i64 ((((l1++[(St.mk ukind usn (Ex.mk uop uty ubits uen uek) ubody uels)]).length:Nat):Int))) (by rw [wr64 (n:=((l1.length:Nat):Int)+1) (by omega) (by omega)];congr 1;simp) ?_
    exact gU _ [(0,.v (.slice a1 n1 cap1)),(1,.v (.slice a2 n2 cap2)),(5,.v (.int .i64 ((l1++[(St.mk ukind usn (Ex.mk uop uty ubits uen uek) ubody uels)]).length:Int)))] [] gz (fun b hb=>hγ0 b hb) (ih (l1++[(St.mk ukind usn (Ex.mk uop uty ubits uen uek) ubody uels)],l3,m3) ⟨(by show L=(l1++[_])++l3;rw [hI1];simp),(by show M=(l1++[_])++m3;rw [hI2,← hxy];simp)⟩ (by show l3.length<(_::l3).length;simp))
end Go.Proofs.YtiacalnkmnckjaaGreatDoor
end
section
namespace Go.Proofs.YtiacalnkmnckjaaGreatDoor
open Go.RowKit Go.As
open Go.Sy in
set_option maxRecDepth 100000 in
theorem sameProgram_any (p q:Pg) (cs1 cs2:List Value) (w:World) (hbd0:pwt p≤1099511627776) (hp:PgAt (·<w.heap.size) w p cs1) (hq:PgAt (·<w.heap.size) w q cs2):
  Calls Tryz.prog 22 #[.agg cs1.toArray,.agg cs2.toArray] w fun r w'=>r = .returned (.bool (sameB p q))∧Below w.heap.size w w':=by
 obtain ⟨pa,pcap,pxs0,pb,pcap2,pys0,pd,pcap3,pzs0,rfl,pxs,pxt,pys,pyt,pzs,pzt⟩:=hp
 obtain ⟨pns,hpns⟩:∃ n,n=p.shared.length:=⟨_,rfl⟩
 rw [← hpns] at pxs ⊢
 obtain ⟨pnm,hpnm⟩:∃ n,n=p.mutexes.length:=⟨_,rfl⟩
 rw [← hpnm] at pys ⊢
 obtain ⟨pnt,hpnt⟩:∃ n,n=p.threads.length:=⟨_,rfl⟩
 rw [← hpnt] at pzs ⊢
 obtain ⟨qa,qcap,qxs0,qb,qcap2,qys0,qd,qcap3,qzs0,rfl,qxs,qxt,qys,qyt,qzs,qzt⟩:=hq
 obtain ⟨qns,hqns⟩:∃ n,n=q.shared.length:=⟨_,rfl⟩
 rw [← hqns] at qxs ⊢
 obtain ⟨qnm,hqnm⟩:∃ n,n=q.mutexes.length:=⟨_,rfl⟩
 rw [← hqnm] at qys ⊢
 obtain ⟨qnt,hqnt⟩:∃ n,n=q.threads.length:=⟨_,rfl⟩
 rw [← hqnt] at qzs ⊢
 have hbd:pns+pnm+thws p.threads≤1099511627776:=by rw [hpns,hpnm];exact hbd0
 have hnl:=thws_len p.threads
 refine Sy.enter (vs:=[.agg #[.slice pa pns pcap,.slice pb pnm pcap2,.slice pd pnt pcap3],.agg #[.slice qa qns qcap,.slice qb qnm qcap2,.slice qd qnt qcap3]]) sy_fine Tryz.func22 rfl (fun γ=>norms_LR _) rfl (fun γ0 hγ0=>?_)
 refine rs [8] 60 0 ?_
 refine good_lock [gz,gz+1] (gz+2) (by kernel_rfl) (fun b hb=>hγ0 b (Nat.le_trans (Nat.le_add_right _ 2) hb)) ?_
 intro γ1 B1 w1 hle1 hγ1 hB01 hB1 hk01 hLk
 have pxs1:=(pxs.keep hk01).mono hB01
 have pys1:=(pys.keep hk01).mono hB01
 have pzs1:=(pzs.keep hk01).mono hB01
 have pzt1:=pzt.imp (fun _ _ h=>ThAt.keep hk01 hB01 h)
 have qxs1:=(qxs.keep hk01).mono hB01
 have qys1:=(qys.keep hk01).mono hB01
 have qzs1:=(qzs.keep hk01).mono hB01
 have qzt1:=qzt.imp (fun _ _ h=>ThAt.keep hk01 hB01 h)
 refine rk ?_
 refine gX [.slice pa pns pcap,.slice qa qns qcap] (.bool (sameB p.shared q.shared)) (fun W hk=>sameVars_any p.shared q.shared _ _ _ _ _ _ _ _ W hpns hqns (by omega) ((pxs1.keep hk).mono (fun k h=>Nat.lt_of_lt_of_le (hB1 k h) hk.size)) ((qxs1.keep hk).mono (fun k h=>Nat.lt_of_lt_of_le (hB1 k h) hk.size)) pxt qxt) ?_
 refine rs [15] 60 0 ?_
 rcases Bool.eq_false_or_eq_true (sameB p.shared q.shared) with hk1 | hk1
 rotate_left
 ·
  refine gS 13 (x := .bool (!(sameB p.shared q.shared))) (.bool true) (by rw [hk1];rfl) ?_
  refine gS 14 (x := .bool (!(sameB p.shared q.shared))) (.bool true) (by rw [hk1];rfl) ?_
  refine rs [] 60 4 ?_
  refine gR (.bool false) (fun W hk=>⟨?_,(hk01.trans (hk.mono hB01)).below⟩)
  rw [sameB_f]
  intro h
  rw [sameB_t.2 (by rw [h])] at hk1;cases hk1
 refine gS 13 (x := .bool (!(sameB p.shared q.shared))) (.bool false) (by rw [hk1];rfl) ?_
 refine gS 14 (x := .bool (!(sameB p.shared q.shared))) (.bool false) (by rw [hk1];rfl) ?_
 refine rk ?_
 refine gX [.slice pb pnm pcap2,.slice qb qnm qcap2] (.bool (sameB p.mutexes q.mutexes)) (fun W hk=>sameTexts_any p.mutexes q.mutexes _ _ _ _ _ _ _ _ W hpnm hqnm (by omega) ((pys1.keep hk).mono (fun k h=>Nat.lt_of_lt_of_le (hB1 k h) hk.size)) ((qys1.keep hk).mono (fun k h=>Nat.lt_of_lt_of_le (hB1 k h) hk.size)) pyt qyt) ?_
 refine rs [23] 60 0 ?_
 rcases Bool.eq_false_or_eq_true (sameB p.mutexes q.mutexes) with hk2 | hk2
 rotate_left
 ·
  refine gS 20 (x := .bool (!(sameB p.mutexes q.mutexes))) (.bool true) (by rw [hk2];rfl) ?_
  refine gS 21 (x := .bool (!(sameB p.mutexes q.mutexes))) (.bool true) (by rw [hk2];rfl) ?_
  refine gS 22 (x := .bool (!(sameB p.mutexes q.mutexes))) (.bool true) (by rw [hk2];rfl) ?_
  refine rs [] 60 4 ?_
  refine gR (.bool false) (fun W hk=>⟨?_,(hk01.trans (hk.mono hB01)).below⟩)
  rw [sameB_f]
  intro h
  rw [sameB_t.2 (by rw [h])] at hk2;cases hk2
 refine gS 20 (x := .bool (!(sameB p.mutexes q.mutexes))) (.bool false) (by rw [hk2];rfl) ?_
 refine gS 21 (x := .bool (!(sameB p.mutexes q.mutexes))) (.bool false) (by rw [hk2];rfl) ?_
 refine gS 22 (x := .bool (!(sameB p.mutexes q.mutexes))) (.bool false) (by rw [hk2];rfl) ?_
 refine rk ?_
 refine good_cond (b:=!(intEq (pnt:Int) (qnt:Int))) (by kernel_rfl) (fun hnn=>?_) (fun hnn=>?_)
 ·
  refine rs [] 60 4 ?_
  refine gR (.bool false) (fun W hk=>⟨?_,(hk01.trans (hk.mono hB01)).below⟩)
  rw [sameB_f]
  intro h
  rw [intEq_eq] at hnn;simp_all
 have hnn1:pnt=qnt:=by rw [intEq_eq] at hnn;have:(pnt:Int)=(qnt:Int):=(by simpa using hnn);omega
 refine rk ?_
 refine good_toLp ?_
 refine good_loopI (fun i:List Th×List Th×List Th=>i.2.1.length) (fun i=>p.threads=i.1++i.2.1∧q.threads=i.1++i.2.2) (fun i=>⟨mkT [(2,.ptr gz 0),(3,.ptr (gz+1) 0),(5,.v (.int .i64 ((i.1.length:Nat):Int)))],mkH [(gz,some (.cells 26 false true true 3 (putL .leaf 0 [.v (.slice pa pns pcap),.v (.slice pb pnm pcap2),.v (.slice pd pnt pcap3)]))),(gz+1,some (.cells 26 false true true 3 (putL .leaf 0 [.v (.slice qa qns qcap),.v (.slice qb qnm qcap2),.v (.slice qd qnt qcap3)])))],gz+2,[]⟩)
  ([],p.threads,q.threads) ⟨rfl,rfl⟩ (by kernel_rfl)
  (fun h=>good_sub _ [(2,.ptr gz 0),(3,.ptr (gz+1) 0),(5,.v (.int .i64 ((([]:List Th).length:Nat):Int)))] [(gz,some (.cells 26 false true true 3 (putL .leaf 0 [.v (.slice pa pns pcap),.v (.slice pb pnm pcap2),.v (.slice pd pnt pcap3)]))),(gz+1,some (.cells 26 false true true 3 (putL .leaf 0 [.v (.slice qa qns qcap),.v (.slice qb qnm qcap2),.v (.slice qd qnt qcap3)])))] (gz+2) rfl (by kernel_rfl) (by kernel_rfl) (by kernel_rfl) (by kernel_rfl) (by kernel_rfl) hγ1 (by kernel_rfl) h) ?_
 rintro ⟨l1,l2,m2⟩ ⟨hI1,hI2⟩ ih
 simp only at hI1 hI2
 have hq1:pnt=l1.length+l2.length:=by rw [hpnt,hI1,List.length_append]
 have hq2:qnt=l1.length+m2.length:=by rw [hqnt,hI2,List.length_append]
 refine rk ?_
 cases l2 with
 | nil=>
   obtain rfl:m2=[]:=List.eq_nil_of_length_eq_zero (by simp only [List.length_nil] at hq1;omega)
   refine gK false (b:=intLt (l1.length:Int) (pnt:Int)) (lt_f (by rw [hq1];simp)) ?_
   refine rk ?_
   refine gR (.bool true) (fun W hk=>⟨?_,(hk01.trans (hk.mono hB01)).below⟩)
   have h1:=sameB_t.1 hk1
   have h2:=sameB_t.1 hk2
   have h3:p.threads=q.threads:=by rw [hI1,hI2]
   rw [sameB_t.2 (by cases p;cases q;simp_all)]
 | cons x l3=>
   obtain ⟨y,m3,rfl⟩:∃ y m3,m2=y::m3:=by
    cases m2 with
    | nil=>simp only [List.length_nil,List.length_cons] at hq1 hq2;omega
    | cons a b=>exact ⟨a,b,rfl⟩
   have hin1:l1.length<pnt:=by rw [hq1,List.length_cons];omega
   have hin2:l1.length<qnt:=by omega
   have hwl:thws p.threads=thws l1+(thw x+thws l3):=by rw [hI1,thws_app];simp [thws]
   simp only [thw] at hwl
   have hks1':=pzt1
   have hks2':=qzt1
   rw [hI1] at hks1'
   rw [hI2] at hks2'
   obtain ⟨c1,⟨xa,xcap,xxs,xb,xcap2,xys,rfl,xh1,xh2,xh3,xh4⟩,hcell1⟩:=hks1'.at_ (fun _ _ h=>h.len)
   obtain ⟨c2,⟨ya,ycap,yxs,yb,ycap2,yys,rfl,yh1,yh2,yh3,yh4⟩,hcell2⟩:=hks2'.at_ (fun _ _ h=>h.len)
   refine gK true (b:=intLt (l1.length:Int) (pnt:Int)) (lt_t (by omega)) ?_
   refine rk ?_
   refine good_plan sy_mixed (.take 0 (.take 1 (.take 2 (.take 3 (.take 4 (.take 5 (.take 6 (.take 7 (.take 8 (.take 9 (.alt (.run 10 (.run 11 (.run 12 .done))) (.run 11 (.run 10 (.run 12 .done)))))))))))))) 13 (by kernel_rfl) ?_
   have hL1:∀ b,hasNat b [gz,gz+1]=true→∃ p,γ1 b=some p∧B1 p.1:=fun b hb=>let ⟨p,h1,h2,_⟩:=hLk b hb;⟨p,h1,h2⟩
   refine p_takes [gz,gz+1] 3 (Bs:=B1) (ws:=w1) (by kernel_rfl) (fun _ h=>h) hL1 ?_
   refine p_val (.pointer (some ⟨gB pd,oB pd+l1.length*3,none⟩)) (S:=Instr.indexAt 24 (.slice pd pnt pcap3) (.int .i64 (l1.length:Int))) (by kernel_rfl) (Bs:=B1) (ws:=w1) (by kernel_rfl) (fun _ h=>h) (fun W _=>idx_sl (e:=58) pzs1 (by kernel_rfl) (by kernel_rfl) hin1 W) ?_
   refine p_val (.agg #[.string (str x.name),.slice xa x.locals.length xcap,.slice xb x.body.length xcap2]) (S:=Instr.loadAt 58 (.pointer (some ⟨gB pd,oB pd+l1.length*3+0,none⟩))) (by kernel_rfl) (Bs:=B1) (ws:=w1) (by kernel_rfl) (fun _ h=>h) (fun W hk=>load_slA (P:=Tryz.prog) (ty:=58) (m:=3) (cs:=[.string (str x.name),.slice xa x.locals.length xcap,.slice xb x.body.length xcap2]) pzs1 (by kernel_rfl) (by kernel_rfl) l1.length 0 rfl hcell1 hk) ?_
   refine p_takes [gz,gz+1] 3 (Bs:=B1) (ws:=w1) (by kernel_rfl) (fun _ h=>h) hL1 ?_
   refine p_val (.pointer (some ⟨gB qd,oB qd+l1.length*3,none⟩)) (S:=Instr.indexAt 24 (.slice qd qnt qcap3) (.int .i64 (l1.length:Int))) (by kernel_rfl) (Bs:=B1) (ws:=w1) (by kernel_rfl) (fun _ h=>h) (fun W _=>idx_sl (e:=58) qzs1 (by kernel_rfl) (by kernel_rfl) hin2 W) ?_
   refine p_val (.agg #[.string (str y.name),.slice ya y.locals.length ycap,.slice yb y.body.length ycap2]) (S:=Instr.loadAt 58 (.pointer (some ⟨gB qd,oB qd+l1.length*3+0,none⟩))) (by kernel_rfl) (Bs:=B1) (ws:=w1) (by kernel_rfl) (fun _ h=>h) (fun W hk=>load_slA (P:=Tryz.prog) (ty:=58) (m:=3) (cs:=[.string (str y.name),.slice ya y.locals.length ycap,.slice yb y.body.length ycap2]) qzs1 (by kernel_rfl) (by kernel_rfl) l1.length 0 rfl hcell2 hk) ?_
   refine p_alt (by kernel_rfl) ?_ ?_
   ·
    refine pR (Keep B1 w1) (fun _ h=>h) ?_
    refine rk ?_
    refine pR (Keep B1 w1) (fun _ h=>h) ?_
    refine rk ?_
    refine pR (Keep B1 w1) (fun _ h=>h) ?_
    refine rk ?_
    refine p_done (by kernel_rfl) ?_ (Keep B1 w1) (by kernel_rfl) (fun _ h=>h)
    refine rs [54] 60 0 ?_
    rcases Bool.eq_false_or_eq_true (bEqL x.name y.name) with hk3 | hk3
    rotate_left
    ·
     refine gS 52 (x := .bool (!(bEqL x.name y.name))) (.bool true) (by rw [hk3];rfl) ?_
     refine gS 53 (x := .bool (!(bEqL x.name y.name))) (.bool true) (by rw [hk3];rfl) ?_
     refine rs [] 60 4 ?_
     refine gR (.bool false) (fun W hk=>⟨?_,(hk01.trans (hk.mono hB01)).below⟩)
     rw [sameB_f]
     intro h
     have h:=congrArg Pg.threads h
     rw [hI1,hI2] at h
     have h:=(List.cons.inj (List.append_cancel_left h)).1
     rw [bEqL_eq] at hk3;simp_all
    refine gS 52 (x := .bool (!(bEqL x.name y.name))) (.bool false) (by rw [hk3];rfl) ?_
    refine gS 53 (x := .bool (!(bEqL x.name y.name))) (.bool false) (by rw [hk3];rfl) ?_
    refine rk ?_
    refine gX [.slice xa x.locals.length xcap,.slice ya y.locals.length ycap] (.bool (sameB x.locals y.locals)) (fun W hk=>sameVars_any x.locals y.locals _ _ _ _ _ _ _ _ W rfl rfl (by omega) ((xh1.keep hk).mono (fun k h=>Nat.lt_of_lt_of_le (hB1 k h) hk.size)) ((yh1.keep hk).mono (fun k h=>Nat.lt_of_lt_of_le (hB1 k h) hk.size)) xh2 yh2) ?_
    refine rs [62] 60 0 ?_
    rcases Bool.eq_false_or_eq_true (sameB x.locals y.locals) with hk4 | hk4
    rotate_left
    ·
     refine gS 59 (x := .bool (!(sameB x.locals y.locals))) (.bool true) (by rw [hk4];rfl) ?_
     refine gS 60 (x := .bool (!(sameB x.locals y.locals))) (.bool true) (by rw [hk4];rfl) ?_
     refine gS 61 (x := .bool (!(sameB x.locals y.locals))) (.bool true) (by rw [hk4];rfl) ?_
     refine rs [] 60 4 ?_
     refine gR (.bool false) (fun W hk=>⟨?_,(hk01.trans (hk.mono hB01)).below⟩)
     rw [sameB_f]
     intro h
     have h:=congrArg Pg.threads h
     rw [hI1,hI2] at h
     have h:=(List.cons.inj (List.append_cancel_left h)).1
     rw [sameB_t.2 (by rw [h])] at hk4;cases hk4
    refine gS 59 (x := .bool (!(sameB x.locals y.locals))) (.bool false) (by rw [hk4];rfl) ?_
    refine gS 60 (x := .bool (!(sameB x.locals y.locals))) (.bool false) (by rw [hk4];rfl) ?_
    refine gS 61 (x := .bool (!(sameB x.locals y.locals))) (.bool false) (by rw [hk4];rfl) ?_
    refine rk ?_
    refine gX [.slice xb x.body.length xcap2,.slice yb y.body.length ycap2] (.bool (sameB x.body y.body)) (fun W hk=>sameStmts_any _ x.body y.body _ _ _ _ _ _ _ _ W rfl rfl (Nat.lt_succ_self _) (by omega) ((xh3.keep hk).mono (fun k h=>Nat.lt_of_lt_of_le (hB1 k h) hk.size)) ((yh3.keep hk).mono (fun k h=>Nat.lt_of_lt_of_le (hB1 k h) hk.size)) (StsAt_ls.1 (xh4.keep hk (fun k h=>Nat.lt_of_lt_of_le (hB1 k h) hk.size))) (StsAt_ls.1 (yh4.keep hk (fun k h=>Nat.lt_of_lt_of_le (hB1 k h) hk.size)))) ?_
    refine rk ?_
    refine good_cond (b:=!(sameB x.body y.body)) (by kernel_rfl) (fun hss=>?_) (fun hss=>?_)
    ·
     refine rs [] 60 4 ?_
     refine gR (.bool false) (fun W hk=>⟨?_,(hk01.trans (hk.mono hB01)).below⟩)
     rw [sameB_f]
     intro h
     have h:=congrArg Pg.threads h
     rw [hI1,hI2] at h
     have h:=(List.cons.inj (List.append_cancel_left h)).1
     rw [sameB_t.2 (by rw [h])] at hss;cases hss
    ·
     have hxy:x=y:=by
      have h5:x.body=y.body:=sameB_t.1 (by simpa using hss)
      have h4:=sameB_t.1 hk4
      rw [bEqL_eq] at hk3
      have h3:x.name=y.name:=by simpa using hk3
      cases x;cases y;simp_all
     refine rs [] 60 2 ?_
     refine gS 5 (x := .int .i64 (wrapF .i64 (((l1.length:Nat):Int)+1))) (.int .i64 ((((l1++[x]).length:Nat):Int))) (by rw [wr64 (n:=((l1.length:Nat):Int)+1) (by omega) (by omega)];congr 1;simp) ?_
     exact gU _ [(2,.ptr gz 0),(3,.ptr (gz+1) 0),(5,.v (.int .i64 (((l1++[x]).length:Nat):Int)))] [(gz,some (.cells 26 false true true 3 (putL .leaf 0 [.v (.slice pa pns pcap),.v (.slice pb pnm pcap2),.v (.slice pd pnt pcap3)]))),(gz+1,some (.cells 26 false true true 3 (putL .leaf 0 [.v (.slice qa qns qcap),.v (.slice qb qnm qcap2),.v (.slice qd qnt qcap3)])))] (gz+2) hγ1 (ih (l1++[x],l3,m3) ⟨(by show p.threads=(l1++[_])++l3;rw [hI1];simp),(by show q.threads=(l1++[_])++m3;rw [hI2,← hxy];simp)⟩ (by show l3.length<(_::l3).length;simp))
   ·
    refine pR (Keep B1 w1) (fun _ h=>h) ?_
    refine rk ?_
    refine pR (Keep B1 w1) (fun _ h=>h) ?_
    refine rk ?_
    refine pR (Keep B1 w1) (fun _ h=>h) ?_
    refine rk ?_
    refine p_done (by kernel_rfl) ?_ (Keep B1 w1) (by kernel_rfl) (fun _ h=>h)
    refine rs [54] 60 0 ?_
    rcases Bool.eq_false_or_eq_true (bEqL x.name y.name) with hk3 | hk3
    rotate_left
    ·
     refine gS 52 (x := .bool (!(bEqL x.name y.name))) (.bool true) (by rw [hk3];rfl) ?_
     refine gS 53 (x := .bool (!(bEqL x.name y.name))) (.bool true) (by rw [hk3];rfl) ?_
     refine rs [] 60 4 ?_
     refine gR (.bool false) (fun W hk=>⟨?_,(hk01.trans (hk.mono hB01)).below⟩)
     rw [sameB_f]
     intro h
     have h:=congrArg Pg.threads h
     rw [hI1,hI2] at h
     have h:=(List.cons.inj (List.append_cancel_left h)).1
     rw [bEqL_eq] at hk3;simp_all
    refine gS 52 (x := .bool (!(bEqL x.name y.name))) (.bool false) (by rw [hk3];rfl) ?_
    refine gS 53 (x := .bool (!(bEqL x.name y.name))) (.bool false) (by rw [hk3];rfl) ?_
    refine rk ?_
    refine gX [.slice xa x.locals.length xcap,.slice ya y.locals.length ycap] (.bool (sameB x.locals y.locals)) (fun W hk=>sameVars_any x.locals y.locals _ _ _ _ _ _ _ _ W rfl rfl (by omega) ((xh1.keep hk).mono (fun k h=>Nat.lt_of_lt_of_le (hB1 k h) hk.size)) ((yh1.keep hk).mono (fun k h=>Nat.lt_of_lt_of_le (hB1 k h) hk.size)) xh2 yh2) ?_
    refine rs [62] 60 0 ?_
    rcases Bool.eq_false_or_eq_true (sameB x.locals y.locals) with hk4 | hk4
    rotate_left
    ·
     refine gS 59 (x := .bool (!(sameB x.locals y.locals))) (.bool true) (by rw [hk4];rfl) ?_
     refine gS 60 (x := .bool (!(sameB x.locals y.locals))) (.bool true) (by rw [hk4];rfl) ?_
     refine gS 61 (x := .bool (!(sameB x.locals y.locals))) (.bool true) (by rw [hk4];rfl) ?_
     refine rs [] 60 4 ?_
     refine gR (.bool false) (fun W hk=>⟨?_,(hk01.trans (hk.mono hB01)).below⟩)
     rw [sameB_f]
     intro h
     have h:=congrArg Pg.threads h
     rw [hI1,hI2] at h
     have h:=(List.cons.inj (List.append_cancel_left h)).1
     rw [sameB_t.2 (by rw [h])] at hk4;cases hk4
    refine gS 59 (x := .bool (!(sameB x.locals y.locals))) (.bool false) (by rw [hk4];rfl) ?_
    refine gS 60 (x := .bool (!(sameB x.locals y.locals))) (.bool false) (by rw [hk4];rfl) ?_
    refine gS 61 (x := .bool (!(sameB x.locals y.locals))) (.bool false) (by rw [hk4];rfl) ?_
    refine rk ?_
    refine gX [.slice xb x.body.length xcap2,.slice yb y.body.length ycap2] (.bool (sameB x.body y.body)) (fun W hk=>sameStmts_any _ x.body y.body _ _ _ _ _ _ _ _ W rfl rfl (Nat.lt_succ_self _) (by omega) ((xh3.keep hk).mono (fun k h=>Nat.lt_of_lt_of_le (hB1 k h) hk.size)) ((yh3.keep hk).mono (fun k h=>Nat.lt_of_lt_of_le (hB1 k h) hk.size)) (StsAt_ls.1 (xh4.keep hk (fun k h=>Nat.lt_of_lt_of_le (hB1 k h) hk.size))) (StsAt_ls.1 (yh4.keep hk (fun k h=>Nat.lt_of_lt_of_le (hB1 k h) hk.size)))) ?_
    refine rk ?_
    refine good_cond (b:=!(sameB x.body y.body)) (by kernel_rfl) (fun hss=>?_) (fun hss=>?_)
    ·
     refine rs [] 60 4 ?_
     refine gR (.bool false) (fun W hk=>⟨?_,(hk01.trans (hk.mono hB01)).below⟩)
     rw [sameB_f]
     intro h
     have h:=congrArg Pg.threads h
     rw [hI1,hI2] at h
     have h:=(List.cons.inj (List.append_cancel_left h)).1
     rw [sameB_t.2 (by rw [h])] at hss;cases hss
    ·
     have hxy:x=y:=by
      have h5:x.body=y.body:=sameB_t.1 (by simpa using hss)
      have h4:=sameB_t.1 hk4
      rw [bEqL_eq] at hk3
      have h3:x.name=y.name:=by simpa using hk3
      cases x;cases y;simp_all
     refine rs [] 60 2 ?_
     refine gS 5 (x := .int .i64 (wrapF .i64 (((l1.length:Nat):Int)+1))) (.int .i64 ((((l1++[x]).length:Nat):Int))) (by rw [wr64 (n:=((l1.length:Nat):Int)+1) (by omega) (by omega)];congr 1;simp) ?_
     exact gU _ [(2,.ptr gz 0),(3,.ptr (gz+1) 0),(5,.v (.int .i64 (((l1++[x]).length:Nat):Int)))] [(gz,some (.cells 26 false true true 3 (putL .leaf 0 [.v (.slice pa pns pcap),.v (.slice pb pnm pcap2),.v (.slice pd pnt pcap3)]))),(gz+1,some (.cells 26 false true true 3 (putL .leaf 0 [.v (.slice qa qns qcap),.v (.slice qb qnm qcap2),.v (.slice qd qnt qcap3)])))] (gz+2) hγ1 (ih (l1++[x],l3,m3) ⟨(by show p.threads=(l1++[_])++l3;rw [hI1];simp),(by show q.threads=(l1++[_])++m3;rw [hI2,← hxy];simp)⟩ (by show l3.length<(_::l3).length;simp))
end Go.Proofs.YtiacalnkmnckjaaGreatDoor
end
section
namespace Go.Proofs.YtiacalnkmnckjaaGreatDoor
open Go.RowKit Go.As
structure CI (α:Type) where
 l1:List α
 l2:List α
 xs:List Value
 X:Sy.AV
 ob:Option Sy.Blk
end Go.Proofs.YtiacalnkmnckjaaGreatDoor
end
section
namespace Go.Proofs.YtiacalnkmnckjaaGreatDoor
open Go.RowKit Go.As
def nls:List (List UInt8)→Nat
 | []=>0
 | x::l=>x.length+nls l
theorem nls_app:∀ (l r:List (List UInt8)),nls (l++r)=nls l+nls r
 | [],r=>by simp [nls]
 | e::l,r=>by
   rw [List.cons_append]
   simp only [nls]
   rw [nls_app l r]
   omega
def vls:List Vr→Nat
 | []=>0
 | x::l=>x.name.length+vls l
theorem vls_app:∀ (l r:List Vr),vls (l++r)=vls l+vls r
 | [],r=>by simp [vls]
 | e::l,r=>by
   rw [List.cons_append]
   simp only [vls]
   rw [vls_app l r]
   omega
def tls:List Th→Nat
 | []=>0
 | x::l=>x.name.length+vls x.locals+tls l
theorem tls_app:∀ (l r:List Th),tls (l++r)=tls l+tls r
 | [],r=>by simp [tls]
 | e::l,r=>by
   rw [List.cons_append]
   simp only [tls]
   rw [tls_app l r]
   omega
def Lrg (p:Pg):Prop:=40<p.threads.length∨40<p.shared.length∨40<p.mutexes.length∨(∃ t∈p.threads,40<t.locals.length)∨4000<nls p.mutexes+vls p.shared+tls p.threads∨6000<pwt p
noncomputable def lrg (p:Pg):Bool:=@decide (Lrg p) (Classical.propDecidable _)
theorem lrg_t {p:Pg}:lrg p=true↔Lrg p:=by unfold lrg;exact @decide_eq_true_iff _ (Classical.propDecidable _)
theorem lrg_f {p:Pg}:lrg p=false↔¬ Lrg p:=by rw [← Bool.not_eq_true,lrg_t]
theorem lt_of_t {a b:Int} (h:Sy.intLt a b=true):a<b:=by rw [Sy.intLt_eq] at h;exact of_decide_eq_true h
theorem lt_of_f {a b:Int} (h:Sy.intLt a b=false):¬ a<b:=by rw [Sy.intLt_eq] at h;exact of_decide_eq_false h
open Go.Sy in
set_option maxRecDepth 100000 in
theorem large_any (p:Pg) (cs:List Value) (w:World) (hbd0:pwt p≤1000000000000) (hnb:nls p.mutexes+vls p.shared+tls p.threads≤1000000000000) (hp:PgAt (·<w.heap.size) w p cs):
  Calls Tryz.prog 12 #[.agg cs.toArray] w fun r w'=>r = .returned (.bool (lrg p))∧Below w.heap.size w w':=by
 have hp0:=hp
 obtain ⟨a,cap,xs,b,cap2,ys,d,cap3,zs,rfl,hxs,hxt,hys,hyt,hzs,hzt⟩:=hp
 obtain ⟨ns,hns⟩:∃ n,n=p.shared.length:=⟨_,rfl⟩
 obtain ⟨nm,hnm⟩:∃ n,n=p.mutexes.length:=⟨_,rfl⟩
 obtain ⟨nt,hnt⟩:∃ n,n=p.threads.length:=⟨_,rfl⟩
 have hbd:ns+nm+thws p.threads≤1000000000000:=by rw [hns,hnm];exact hbd0
 have hnl0:=thws_len p.threads
 rw [← hns,← hnm,← hnt] at hp0 ⊢
 rw [← hns] at hxs
 rw [← hnm] at hys
 rw [← hnt] at hzs
 refine Sy.enter (vs:=[.agg #[.slice a ns cap,.slice b nm cap2,.slice d nt cap3]]) sy_fine Tryz.func12 rfl (fun γ=>norms_LR _) rfl (fun γ0 hγ0=>?_)
 refine rk ?_
 refine good_toLp ?_
 refine good_loopI (fun i:List (List UInt8)×List (List UInt8)=>i.2.length) (fun i=>p.mutexes=i.1++i.2) (fun i=>⟨mkT [(1,.ptr gz 0),(3,.v (.int .i64 ((nls i.1:Nat):Int))),(4,.v (.int .i64 ((i.1.length:Nat):Int)))],mkH [(gz,some (.cells 26 true true true 3 (putL .leaf 0 [.v (.slice a ns cap),.v (.slice b nm cap2),.v (.slice d nt cap3)])))],(gz+1),[]⟩)
  ([],p.mutexes) rfl (by kernel_rfl)
  (fun h=>good_sub _ [(1,.ptr gz 0),(3,.v (.int .i64 ((nls ([]:List (List UInt8)):Nat):Int))),(4,.v (.int .i64 ((([]:List (List UInt8)).length:Nat):Int)))] [(gz,some (.cells 26 true true true 3 (putL .leaf 0 [.v (.slice a ns cap),.v (.slice b nm cap2),.v (.slice d nt cap3)])))] (gz+1) rfl (by kernel_rfl) (by kernel_rfl) (by kernel_rfl) (by kernel_rfl) (by kernel_rfl) (fun b hb=>hγ0 b (by have h:gz=Tryz.prog.globals.size:=rfl;omega)) (by kernel_rfl) h) ?_
 rintro ⟨lM,rM⟩ hIM ihM
 have hIM:p.mutexes=lM++rM:=hIM
 have hn2M:nm=lM.length+rM.length:=by rw [hnm,hIM,List.length_append]
 have hsM:nls p.mutexes=nls lM+nls rM:=by rw [hIM,nls_app]
 refine rk ?_
 cases rM with
 | cons sM mM=>
   have hinM:lM.length<nm:=by rw [hn2M,List.length_cons];omega
   have hksM:=hyt
   rw [hIM] at hksM
   obtain ⟨cM,hcM,hcellM⟩:=hksM.at_ (fun _ _ h=>h.len)
   have hs2M:nls (lM++[sM])=nls lM+sM.length:=by rw [nls_app];simp [nls,vls,tls]
   have hs3M:nls (sM::mM)=sM.length+nls mM:=by simp [nls,vls,tls]
   refine gK true (b:=intLt (lM.length:Int) (nm:Int)) (lt_t (by omega)) ?_
   refine rk ?_
   obtain rfl:cM=[.string (str sM)]:=hcM
   refine gV (.pointer (some ⟨gB b,oB b+lM.length*1,none⟩)) (S:=Instr.indexAt 23 (.slice b nm cap2) (.int .i64 (lM.length:Int))) (fun W _=>idx_sl (e:=9) hys (by kernel_rfl) (by kernel_rfl) hinM W) ?_
   refine rk ?_
   refine gV (.string (str sM)) (S:=Instr.loadAt 9 (.pointer (some ⟨gB b,oB b+lM.length*1+0,none⟩))) (fun W hk=>load_sl hys (by kernel_rfl) lM.length 0 (hcellM 0 _ rfl) hk) ?_
   refine rk ?_
   refine gS 3 (x := .int .i64 (wrapF .i64 (((nls lM:Nat):Int)+((sM.length:Nat):Int)))) (.int .i64 (((nls (lM++[sM]):Nat):Int))) (by rw [wr64 (n:=((nls lM:Nat):Int)+((sM.length:Nat):Int)) (by omega) (by omega)];congr 1;omega) ?_
   refine gS 4 (x := .int .i64 (wrapF .i64 (((lM.length:Nat):Int)+1))) (.int .i64 ((((lM++[sM]).length:Nat):Int))) (by rw [wr64 (n:=((lM.length:Nat):Int)+1) (by omega) (by omega)];congr 1;simp) ?_
   exact gU _ [(1,.ptr gz 0),(3,.v (.int .i64 ((nls (lM++[sM]):Nat):Int))),(4,.v (.int .i64 (((lM++[sM]).length:Nat):Int)))] [(gz,some (.cells 26 true true true 3 (putL .leaf 0 [.v (.slice a ns cap),.v (.slice b nm cap2),.v (.slice d nt cap3)])))] (gz+1) (fun b hb=>hγ0 b (by have h:gz=Tryz.prog.globals.size:=rfl;omega)) (ihM (lM++[sM],mM) (by show p.mutexes=(lM++[_])++mM;rw [hIM];simp) (by show mM.length<(_::mM).length;simp))
 | nil=>
   have hklM:lM=p.mutexes:=by rw [hIM];simp
   have hn3M:nm=lM.length:=by rw [hn2M];simp
   refine gK false (b:=intLt (lM.length:Int) (nm:Int)) (lt_f (by omega)) ?_
   refine rk ?_
   refine gS 3 (x := .int .i64 ((nls lM:Nat):Int)) (.int .i64 ((nls p.mutexes+vls ([]:List Vr):Nat):Int)) (by rw [hklM];simp [vls]) ?_
   refine rk ?_
   refine good_toLp ?_
   refine good_loopI (fun i:List Vr×List Vr=>i.2.length) (fun i=>p.shared=i.1++i.2) (fun i=>⟨mkT [(1,.ptr gz 0),(3,.v (.int .i64 ((nls p.mutexes+vls i.1:Nat):Int))),(5,.v (.int .i64 ((i.1.length:Nat):Int)))],mkH [(gz,some (.cells 26 true true true 3 (putL .leaf 0 [.v (.slice a ns cap),.v (.slice b nm cap2),.v (.slice d nt cap3)])))],(gz+1),[]⟩)
    ([],p.shared) rfl (by kernel_rfl)
    (fun h=>good_sub _ [(1,.ptr gz 0),(3,.v (.int .i64 ((nls p.mutexes+vls ([]:List Vr):Nat):Int))),(5,.v (.int .i64 ((([]:List Vr).length:Nat):Int)))] [(gz,some (.cells 26 true true true 3 (putL .leaf 0 [.v (.slice a ns cap),.v (.slice b nm cap2),.v (.slice d nt cap3)])))] (gz+1) rfl (by kernel_rfl) (by kernel_rfl) (by kernel_rfl) (by kernel_rfl) (by kernel_rfl) (fun b hb=>hγ0 b (by have h:gz=Tryz.prog.globals.size:=rfl;omega)) (by kernel_rfl) h) ?_
   rintro ⟨lS,rS⟩ hIS ihS
   have hIS:p.shared=lS++rS:=hIS
   have hn2S:ns=lS.length+rS.length:=by rw [hns,hIS,List.length_append]
   have hsS:vls p.shared=vls lS+vls rS:=by rw [hIS,vls_app]
   refine rk ?_
   cases rS with
   | cons sS mS=>
     have hinS:lS.length<ns:=by rw [hn2S,List.length_cons];omega
     have hksS:=hxt
     rw [hIS] at hksS
     obtain ⟨cS,hcS,hcellS⟩:=hksS.at_ (fun _ _ h=>h.len)
     have hs2S:vls (lS++[sS])=vls lS+sS.name.length:=by rw [vls_app];simp [nls,vls,tls]
     have hs3S:vls (sS::mS)=sS.name.length+vls mS:=by simp [nls,vls,tls]
     refine gK true (b:=intLt (lS.length:Int) (ns:Int)) (lt_t (by omega)) ?_
     refine rk ?_
     obtain rfl:cS=[.string (str sS.name),.int .u8 sS.ty,.int .u64 sS.bits]:=hcS
     refine gV (.pointer (some ⟨gB a,oB a+lS.length*3,none⟩)) (S:=Instr.indexAt 22 (.slice a ns cap) (.int .i64 (lS.length:Int))) (fun W _=>idx_sl (e:=67) hxs (by kernel_rfl) (by kernel_rfl) hinS W) ?_
     refine rk ?_
     refine gV (.string (str sS.name)) (S:=Instr.loadAt 9 (.pointer (some ⟨gB a,oB a+lS.length*3+0,none⟩))) (fun W hk=>load_sl hxs (by kernel_rfl) lS.length 0 (hcellS 0 _ rfl) hk) ?_
     refine rk ?_
     refine gS 3 (x := .int .i64 (wrapF .i64 (((nls p.mutexes+vls lS:Nat):Int)+((sS.name.length:Nat):Int)))) (.int .i64 (((nls p.mutexes+vls (lS++[sS]):Nat):Int))) (by rw [wr64 (n:=((nls p.mutexes+vls lS:Nat):Int)+((sS.name.length:Nat):Int)) (by omega) (by omega)];congr 1;omega) ?_
     refine gS 5 (x := .int .i64 (wrapF .i64 (((lS.length:Nat):Int)+1))) (.int .i64 ((((lS++[sS]).length:Nat):Int))) (by rw [wr64 (n:=((lS.length:Nat):Int)+1) (by omega) (by omega)];congr 1;simp) ?_
     exact gU _ [(1,.ptr gz 0),(3,.v (.int .i64 ((nls p.mutexes+vls (lS++[sS]):Nat):Int))),(5,.v (.int .i64 (((lS++[sS]).length:Nat):Int)))] [(gz,some (.cells 26 true true true 3 (putL .leaf 0 [.v (.slice a ns cap),.v (.slice b nm cap2),.v (.slice d nt cap3)])))] (gz+1) (fun b hb=>hγ0 b (by have h:gz=Tryz.prog.globals.size:=rfl;omega)) (ihS (lS++[sS],mS) (by show p.shared=(lS++[_])++mS;rw [hIS];simp) (by show mS.length<(_::mS).length;simp))
   | nil=>
     have hklS:lS=p.shared:=by rw [hIS];simp
     have hn3S:ns=lS.length:=by rw [hn2S];simp
     refine gK false (b:=intLt (lS.length:Int) (ns:Int)) (lt_f (by omega)) ?_
     refine rs [45] 60 0 ?_
     rcases Bool.eq_false_or_eq_true (intLt 40 (nt:Int)) with h1 | h1
     ·
      refine gS 43 (x := .bool (intLt 40 (nt:Int))) (.bool true) (by rw [h1]) ?_
      refine gS 44 (x := .bool (intLt 40 (nt:Int))) (.bool true) (by rw [h1]) ?_
      refine rs [] 60 4 ?_
      refine gR (.bool true) (fun W hk=>⟨?_,hk.below⟩)
      rw [lrg_t.2 (.inl (by have:=lt_of_t h1;omega))]
     refine gS 43 (x := .bool (intLt 40 (nt:Int))) (.bool false) (by rw [h1]) ?_
     refine gS 44 (x := .bool (intLt 40 (nt:Int))) (.bool false) (by rw [h1]) ?_
     refine rs [51] 60 0 ?_
     rcases Bool.eq_false_or_eq_true (intLt 40 (ns:Int)) with h2 | h2
     ·
      refine gS 48 (x := .bool (intLt 40 (ns:Int))) (.bool true) (by rw [h2]) ?_
      refine gS 49 (x := .bool (intLt 40 (ns:Int))) (.bool true) (by rw [h2]) ?_
      refine gS 50 (x := .bool (intLt 40 (ns:Int))) (.bool true) (by rw [h2]) ?_
      refine rs [] 60 4 ?_
      refine gR (.bool true) (fun W hk=>⟨?_,hk.below⟩)
      rw [lrg_t.2 (.inr (.inl (by have:=lt_of_t h2;omega)))]
     refine gS 48 (x := .bool (intLt 40 (ns:Int))) (.bool false) (by rw [h2]) ?_
     refine gS 49 (x := .bool (intLt 40 (ns:Int))) (.bool false) (by rw [h2]) ?_
     refine gS 50 (x := .bool (intLt 40 (ns:Int))) (.bool false) (by rw [h2]) ?_
     refine rk ?_
     refine good_cond (b:=intLt 40 (nm:Int)) (by kernel_rfl) (fun h3=>?_) (fun h3=>?_)
     ·
      refine rs [] 60 4 ?_
      refine gR (.bool true) (fun W hk=>⟨?_,hk.below⟩)
      rw [lrg_t.2 (.inr (.inr (.inl (by have:=lt_of_t h3;omega))))]
     refine rk ?_
     refine gS 3 (x := .int .i64 ((nls p.mutexes+vls lS:Nat):Int)) (.int .i64 ((nls p.mutexes+vls p.shared+tls ([]:List Th):Nat):Int)) (by rw [hklS];simp [tls]) ?_
     refine good_toLp ?_
     refine good_loopI (fun i:List Th×List Th=>i.2.length) (fun i=>p.threads=i.1++i.2∧∀ t∈i.1,t.locals.length≤40) (fun i=>⟨mkT [(1,.ptr gz 0),(3,.v (.int .i64 ((nls p.mutexes+vls p.shared+tls i.1:Nat):Int))),(6,.v (.int .i64 ((i.1.length:Nat):Int)))],mkH [(gz,some (.cells 26 true true true 3 (putL .leaf 0 [.v (.slice a ns cap),.v (.slice b nm cap2),.v (.slice d nt cap3)])))],(gz+1),[]⟩)
      ([],p.threads) ⟨rfl,fun t h=>by cases h⟩ (by kernel_rfl)
      (fun h=>good_sub _ [(1,.ptr gz 0),(3,.v (.int .i64 ((nls p.mutexes+vls p.shared+tls ([]:List Th):Nat):Int))),(6,.v (.int .i64 ((([]:List Th).length:Nat):Int)))] [(gz,some (.cells 26 true true true 3 (putL .leaf 0 [.v (.slice a ns cap),.v (.slice b nm cap2),.v (.slice d nt cap3)])))] (gz+1) rfl (by kernel_rfl) (by kernel_rfl) (by kernel_rfl) (by kernel_rfl) (by kernel_rfl) (fun b hb=>hγ0 b (by have h:gz=Tryz.prog.globals.size:=rfl;omega)) (by kernel_rfl) h) ?_
     rintro ⟨lT,rT⟩ hIT ihT
     have hall:∀ t∈lT,t.locals.length≤40:=hIT.2
     have hIT:p.threads=lT++rT:=hIT.1
     have hn2T:nt=lT.length+rT.length:=by rw [hnt,hIT,List.length_append]
     have hsT:tls p.threads=tls lT+tls rT:=by rw [hIT,tls_app]
     refine rk ?_
     cases rT with
     | cons sT mT=>
       have hinT:lT.length<nt:=by rw [hn2T,List.length_cons];omega
       have hksT:=hzt
       rw [hIT] at hksT
       obtain ⟨cT,hcT,hcellT⟩:=hksT.at_ (fun _ _ h=>h.len)
       have hs2T:tls (lT++[sT])=tls lT+(sT.name.length+vls sT.locals):=by rw [tls_app];simp [nls,vls,tls]
       have hs3T:tls (sT::mT)=(sT.name.length+vls sT.locals)+tls mT:=by simp [nls,vls,tls]
       refine gK true (b:=intLt (lT.length:Int) (nt:Int)) (lt_t (by omega)) ?_
       refine rk ?_
       obtain ⟨sa,scap,sxs,sb,scap2,sys,rfl,shs,sht,shb,shbt⟩:=hcT
       refine gV (.pointer (some ⟨gB d,oB d+lT.length*3,none⟩)) (S:=Instr.indexAt 24 (.slice d nt cap3) (.int .i64 (lT.length:Int))) (fun W _=>idx_sl (e:=58) hzs (by kernel_rfl) (by kernel_rfl) hinT W) ?_
       refine rk ?_
       refine gV (.agg #[.string (str sT.name),.slice sa sT.locals.length scap,.slice sb sT.body.length scap2]) (S:=Instr.loadAt 58 (.pointer (some ⟨gB d,oB d+lT.length*3+0,none⟩))) (fun W hk=>load_slA (P:=Tryz.prog) (ty:=58) (m:=3) (cs:=[.string (str sT.name),.slice sa sT.locals.length scap,.slice sb sT.body.length scap2]) hzs (by kernel_rfl) (by kernel_rfl) lT.length 0 rfl hcellT hk) ?_
       refine rk ?_
       refine good_cond (b:=intLt 40 (sT.locals.length:Int)) (by kernel_rfl) (fun h4=>?_) (fun h4=>?_)
       ·
        refine rs [] 60 4 ?_
        refine gR (.bool true) (fun W hk=>⟨?_,hk.below⟩)
        rw [lrg_t.2 (.inr (.inr (.inr (.inl ⟨sT,by rw [hIT];simp,by have:=lt_of_t h4;omega⟩))))]
       have h40:sT.locals.length≤40:=by have:=lt_of_f h4;omega
       refine rk ?_
       refine gS 3 (x := .int .i64 (wrapF .i64 (((nls p.mutexes+vls p.shared+tls lT:Nat):Int)+((sT.name.length:Nat):Int)))) (.int .i64 (((nls p.mutexes+vls p.shared+tls lT+sT.name.length+vls ([]:List Vr):Nat):Int))) (by rw [wr64 (n:=((nls p.mutexes+vls p.shared+tls lT:Nat):Int)+((sT.name.length:Nat):Int)) (by omega) (by omega)];simp [vls]) ?_
       refine good_toLp ?_
       refine good_loopI (fun i:List Vr×List Vr=>i.2.length) (fun i=>sT.locals=i.1++i.2) (fun i=>⟨mkT [(1,.ptr gz 0),(3,.v (.int .i64 ((nls p.mutexes+vls p.shared+tls lT+sT.name.length+vls i.1:Nat):Int))),(6,.v (.int .i64 ((lT.length:Nat):Int))),(7,.ptr (gz+1) 0),(8,.v (.int .i64 ((i.1.length:Nat):Int)))],mkH [(gz,some (.cells 26 true true true 3 (putL .leaf 0 [.v (.slice a ns cap),.v (.slice b nm cap2),.v (.slice d nt cap3)]))),(gz+1,some (.cells 58 true true true 3 (putL .leaf 0 [.v (.string (str sT.name)),.v (.slice sa sT.locals.length scap),.v (.slice sb sT.body.length scap2)])))],(gz+2),[]⟩)
        ([],sT.locals) rfl (by kernel_rfl)
        (fun h=>good_sub _ [(1,.ptr gz 0),(3,.v (.int .i64 ((nls p.mutexes+vls p.shared+tls lT+sT.name.length+vls ([]:List Vr):Nat):Int))),(6,.v (.int .i64 ((lT.length:Nat):Int))),(7,.ptr (gz+1) 0),(8,.v (.int .i64 ((([]:List Vr).length:Nat):Int)))] [(gz,some (.cells 26 true true true 3 (putL .leaf 0 [.v (.slice a ns cap),.v (.slice b nm cap2),.v (.slice d nt cap3)]))),(gz+1,some (.cells 58 true true true 3 (putL .leaf 0 [.v (.string (str sT.name)),.v (.slice sa sT.locals.length scap),.v (.slice sb sT.body.length scap2)])))] (gz+2) rfl (by kernel_rfl) (by kernel_rfl) (by kernel_rfl) (by kernel_rfl) (by kernel_rfl) (fun b hb=>hγ0 b (by have h:gz=Tryz.prog.globals.size:=rfl;omega)) (by kernel_rfl) h) ?_
       rintro ⟨lL,rL⟩ hIL ihL
       have hIL:sT.locals=lL++rL:=hIL
       have hn2L:sT.locals.length=lL.length+rL.length:=by rw [hIL,List.length_append]
       have hsL:vls sT.locals=vls lL+vls rL:=by rw [hIL,vls_app]
       refine rk ?_
       cases rL with
       | cons sL mL=>
         have hinL:lL.length<sT.locals.length:=by rw [hn2L,List.length_cons];omega
         have hksL:=sht
         rw [hIL] at hksL
         obtain ⟨cL,hcL,hcellL⟩:=hksL.at_ (fun _ _ h=>h.len)
         have hs2L:vls (lL++[sL])=vls lL+sL.name.length:=by rw [vls_app];simp [nls,vls,tls]
         have hs3L:vls (sL::mL)=sL.name.length+vls mL:=by simp [nls,vls,tls]
         refine gK true (b:=intLt (lL.length:Int) (sT.locals.length:Int)) (lt_t (by omega)) ?_
         refine rk ?_
         obtain rfl:cL=[.string (str sL.name),.int .u8 sL.ty,.int .u64 sL.bits]:=hcL
         refine gV (.pointer (some ⟨gB sa,oB sa+lL.length*3,none⟩)) (S:=Instr.indexAt 22 (.slice sa sT.locals.length scap) (.int .i64 (lL.length:Int))) (fun W _=>idx_sl (e:=67) shs (by kernel_rfl) (by kernel_rfl) hinL W) ?_
         refine rk ?_
         refine gV (.string (str sL.name)) (S:=Instr.loadAt 9 (.pointer (some ⟨gB sa,oB sa+lL.length*3+0,none⟩))) (fun W hk=>load_sl shs (by kernel_rfl) lL.length 0 (hcellL 0 _ rfl) hk) ?_
         refine rk ?_
         refine gS 3 (x := .int .i64 (wrapF .i64 (((nls p.mutexes+vls p.shared+tls lT+sT.name.length+vls lL:Nat):Int)+((sL.name.length:Nat):Int)))) (.int .i64 (((nls p.mutexes+vls p.shared+tls lT+sT.name.length+vls (lL++[sL]):Nat):Int))) (by rw [wr64 (n:=((nls p.mutexes+vls p.shared+tls lT+sT.name.length+vls lL:Nat):Int)+((sL.name.length:Nat):Int)) (by omega) (by omega)];congr 1;omega) ?_
         refine gS 8 (x := .int .i64 (wrapF .i64 (((lL.length:Nat):Int)+1))) (.int .i64 ((((lL++[sL]).length:Nat):Int))) (by rw [wr64 (n:=((lL.length:Nat):Int)+1) (by omega) (by omega)];congr 1;simp) ?_
         exact gU _ [(1,.ptr gz 0),(3,.v (.int .i64 ((nls p.mutexes+vls p.shared+tls lT+sT.name.length+vls (lL++[sL]):Nat):Int))),(6,.v (.int .i64 ((lT.length:Nat):Int))),(7,.ptr (gz+1) 0),(8,.v (.int .i64 (((lL++[sL]).length:Nat):Int)))] [(gz,some (.cells 26 true true true 3 (putL .leaf 0 [.v (.slice a ns cap),.v (.slice b nm cap2),.v (.slice d nt cap3)]))),(gz+1,some (.cells 58 true true true 3 (putL .leaf 0 [.v (.string (str sT.name)),.v (.slice sa sT.locals.length scap),.v (.slice sb sT.body.length scap2)])))] (gz+2) (fun b hb=>hγ0 b (by have h:gz=Tryz.prog.globals.size:=rfl;omega)) (ihL (lL++[sL],mL) (by show sT.locals=(lL++[_])++mL;rw [hIL];simp) (by show mL.length<(_::mL).length;simp))
       | nil=>
         have hklL:lL=sT.locals:=by rw [hIL];simp
         have hn3L:sT.locals.length=lL.length:=by rw [hn2L];simp
         refine gK false (b:=intLt (lL.length:Int) (sT.locals.length:Int)) (lt_f (by omega)) ?_
         refine rk ?_
         refine gS 3 (x := .int .i64 ((nls p.mutexes+vls p.shared+tls lT+sT.name.length+vls lL:Nat):Int)) (.int .i64 ((nls p.mutexes+vls p.shared+tls (lT++[sT]):Nat):Int)) (by rw [hklL,hs2T];congr 1;omega) ?_
         refine gS 6 (x := .int .i64 (wrapF .i64 (((lT.length:Nat):Int)+1))) (.int .i64 ((((lT++[sT]).length:Nat):Int))) (by rw [wr64 (n:=((lT.length:Nat):Int)+1) (by omega) (by omega)];congr 1;simp) ?_
         exact gU _ [(1,.ptr gz 0),(3,.v (.int .i64 ((nls p.mutexes+vls p.shared+tls (lT++[sT]):Nat):Int))),(6,.v (.int .i64 (((lT++[sT]).length:Nat):Int)))] [(gz,some (.cells 26 true true true 3 (putL .leaf 0 [.v (.slice a ns cap),.v (.slice b nm cap2),.v (.slice d nt cap3)])))] (gz+1) (fun b hb=>hγ0 b (by have h:gz=Tryz.prog.globals.size:=rfl;omega)) (ihT (lT++[sT],mT) ⟨(by show p.threads=(lT++[_])++mT;rw [hIT];simp),fun t ht=>(List.mem_append.1 ht).elim (hall t) (fun h=>by rw [List.mem_singleton] at h;rw [h];exact h40)⟩ (by show mT.length<(_::mT).length;simp))
     | nil=>
       have hklT:lT=p.threads:=by rw [hIT];simp
       have hn3T:nt=lT.length:=by rw [hn2T];simp
       refine gK false (b:=intLt (lT.length:Int) (nt:Int)) (lt_f (by omega)) ?_
       refine rs [96] 60 0 ?_
       rcases Bool.eq_false_or_eq_true (intLt 4000 ((nls p.mutexes+vls p.shared+tls lT:Nat):Int)) with h5 | h5
       ·
        refine gS 94 (x := .bool (intLt 4000 ((nls p.mutexes+vls p.shared+tls lT:Nat):Int))) (.bool true) (by rw [h5]) ?_
        refine gS 95 (x := .bool (intLt 4000 ((nls p.mutexes+vls p.shared+tls lT:Nat):Int))) (.bool true) (by rw [h5]) ?_
        refine rs [] 60 4 ?_
        refine gR (.bool true) (fun W hk=>⟨?_,hk.below⟩)
        rw [lrg_t.2 (.inr (.inr (.inr (.inr (.inl (by have:=lt_of_t h5;rw [hklT] at this;omega))))))]
       refine gS 94 (x := .bool (intLt 4000 ((nls p.mutexes+vls p.shared+tls lT:Nat):Int))) (.bool false) (by rw [h5]) ?_
       refine gS 95 (x := .bool (intLt 4000 ((nls p.mutexes+vls p.shared+tls lT:Nat):Int))) (.bool false) (by rw [h5]) ?_
       refine rk ?_
       refine gX [.agg #[.slice a ns cap,.slice b nm cap2,.slice d nt cap3]] (.int .i64 ((pwt p:Nat):Int)) (fun W hk=>weightProgram_any p _ W (by omega) (hp0.keep hk (fun k h=>Nat.lt_of_lt_of_le h hk.size))) ?_
       refine rk ?_
       refine gR (.bool (intLt 6000 ((pwt p:Nat):Int))) (fun W hk=>⟨?_,hk.below⟩)
       have g1:=lt_of_f h1
       have g2:=lt_of_f h2
       have g3:=lt_of_f h3
       have g5:=lt_of_f h5
       rw [hklT] at hall g5
       rcases Bool.eq_false_or_eq_true (lrg p) with hL | hL
       · rw [hL]
         have hL:=lrg_t.1 hL
         rw [lt_t]
         unfold Lrg at hL
         rcases hL with h | h | h | ⟨t,ht,h⟩ | h | h
         · omega
         · omega
         · omega
         · have:=hall t ht;omega
         · omega
         · omega
       · rw [hL]
         have hL:=lrg_f.1 hL
         rw [lt_f]
         intro h
         exact hL (.inr (.inr (.inr (.inr (.inr (by omega))))))
end Go.Proofs.YtiacalnkmnckjaaGreatDoor
end
section
namespace Go.Proofs.YtiacalnkmnckjaaGreatDoor
open Go.RowKit Go.As
open Go.Sy in
set_option maxRecDepth 100000 in
theorem eqTexts_any (L M:List (List UInt8)) (a1 a2:Option Addr) (n1 n2 cap1 cap2:Nat) (xs1 xs2:List Value) (w:World) (hn1:n1=L.length) (hn2:n2=M.length) (hbd:n1≤1099511627776)
  (hsl1:Sy.SlAt (·<w.heap.size) w a1 n1 1 xs1) (hsl2:Sy.SlAt (·<w.heap.size) w a2 n2 1 xs2) (hks1:LsAt TxAt L xs1) (hks2:LsAt TxAt M xs2):
  Calls Tryz.prog 76 #[.slice a1 n1 cap1,.slice a2 n2 cap2] w fun r w'=>r = .returned (.bool (sameB L M))∧Below w.heap.size w w':=by
 refine Sy.enter (vs:=[.slice a1 n1 cap1,.slice a2 n2 cap2]) sy_fine Tryz.func76 rfl (fun γ=>norms_LR _) rfl (fun γ0 hγ0=>?_)
 refine rk ?_
 refine good_cond (b:=!(intEq (n1:Int) (n2:Int))) (by kernel_rfl) (fun hnn=>?_) (fun hnn=>?_)
 ·
  refine rs [] 60 2 ?_
  refine gR (.bool false) (fun W hk=>⟨?_,hk.below⟩)
  rw [sameB_f]
  intro h
  rw [intEq_eq] at hnn;simp_all
 have hnn1:n1=n2:=by rw [intEq_eq] at hnn;have:(n1:Int)=(n2:Int):=(by simpa using hnn);omega
 refine rk ?_
 refine good_toLp ?_
 refine good_loopI (fun i:List (List UInt8)×List (List UInt8)×List (List UInt8)=>i.2.1.length) (fun i=>L=i.1++i.2.1∧M=i.1++i.2.2) (fun i=>⟨mkT [(0,.v (.slice a1 n1 cap1)),(1,.v (.slice a2 n2 cap2)),(11,.v (.slice a1 n1 cap1)),(12,.v (.int .i64 (n1:Int))),(13,.v (.int .i64 (i.1.length:Int)))],mkH [],gz,[]⟩)
  ([],L,M) ⟨rfl,rfl⟩ (by kernel_rfl)
  (fun h=>good_sub _ [(0,.v (.slice a1 n1 cap1)),(1,.v (.slice a2 n2 cap2)),(11,.v (.slice a1 n1 cap1)),(12,.v (.int .i64 (n1:Int))),(13,.v (.int .i64 (([]:List (List UInt8)).length:Int)))] [] gz rfl (by kernel_rfl) (by kernel_rfl) (by kernel_rfl) (by kernel_rfl) (by kernel_rfl) (fun b hb=>hγ0 b hb) (by kernel_rfl) h) ?_
 rintro ⟨l1,l2,m2⟩ ⟨hI1,hI2⟩ ih
 simp only at hI1 hI2
 have hq1:n1=l1.length+l2.length:=by rw [hn1,hI1,List.length_append]
 have hq2:n2=l1.length+m2.length:=by rw [hn2,hI2,List.length_append]
 refine rk ?_
 cases l2 with
 | nil=>
   obtain rfl:m2=[]:=List.eq_nil_of_length_eq_zero (by simp only [List.length_nil] at hq1;omega)
   refine gK false (b:=intLt (l1.length:Int) (n1:Int)) (lt_f (by rw [hq1];simp)) ?_
   refine rk ?_
   refine gR (.bool true) (fun W hk=>⟨?_,hk.below⟩)
   rw [sameB_t.2 (by rw [hI1,hI2])]
 | cons x l3=>
   obtain ⟨y,m3,rfl⟩:∃ y m3,m2=y::m3:=by
    cases m2 with
    | nil=>simp only [List.length_nil,List.length_cons] at hq1 hq2;omega
    | cons a b=>exact ⟨a,b,rfl⟩
   have hin1:l1.length<n1:=by rw [hq1,List.length_cons];omega
   have hin2:l1.length<n2:=by omega
   have hks1':=hks1
   have hks2':=hks2
   rw [hI1] at hks1'
   rw [hI2] at hks2'
   obtain ⟨c1,hc1,hcell1⟩:=hks1'.at_ (fun _ _ h=>h.len)
   obtain ⟨c2,hc2,hcell2⟩:=hks2'.at_ (fun _ _ h=>h.len)
   refine gK true (b:=intLt (l1.length:Int) (n1:Int)) (lt_t (by omega)) ?_
   refine rk ?_
   obtain rfl:c1=[.string (str x)]:=hc1
   obtain rfl:c2=[.string (str y)]:=hc2
   refine good_draw sy_mixed (by kernel_rfl) ?_
   refine q_run [] 60 ?_
   refine qV (.pointer (some ⟨gB a1,oB a1+l1.length*1,none⟩)) (S:=Instr.indexAt 23 (.slice a1 n1 cap1) (.int .i64 (l1.length:Int))) (fun W _=>idx_sl (e:=9) hsl1 (by kernel_rfl) (by kernel_rfl) hin1 W) ?_
   refine q_run [] 60 ?_
   refine qV (.string (str x)) (S:=Instr.loadAt 9 (.pointer (some ⟨gB a1,oB a1+l1.length*1+0,none⟩))) (fun W hk=>load_sl hsl1 (by kernel_rfl) l1.length 0 (hcell1 0 _ rfl) hk) ?_
   refine q_run [] 60 ?_
   refine qV (.pointer (some ⟨gB a2,oB a2+l1.length*1,none⟩)) (S:=Instr.indexAt 23 (.slice a2 n2 cap2) (.int .i64 (l1.length:Int))) (fun W _=>idx_sl (e:=9) hsl2 (by kernel_rfl) (by kernel_rfl) hin2 W) ?_
   refine q_run [] 60 ?_
   refine qV (.string (str y)) (S:=Instr.loadAt 9 (.pointer (some ⟨gB a2,oB a2+l1.length*1+0,none⟩))) (fun W hk=>load_sl hsl2 (by kernel_rfl) l1.length 0 (hcell2 0 _ rfl) hk) ?_
   refine q_run [] 60 ?_
   refine qE ?_
   refine rk ?_
   refine good_cond (b:=!(bEqL x y)) (by kernel_rfl) (fun hss=>?_) (fun hss=>?_)
   ·
    have hne:x≠y:=fun h=>by rw [h,bEqL_eq] at hss;simp at hss
    refine rs [] 60 2 ?_
    refine gR (.bool false) (fun W hk=>⟨?_,hk.below⟩)
    rw [sameB_f]
    intro h
    rw [hI1,hI2] at h
    have h2:=(List.cons.inj (List.append_cancel_left h)).1
    exact hne h2
   ·
    have hxy:x=y:=by rw [bEqL_eq] at hss;simpa using hss
    refine rs [] 60 2 ?_
    refine gS 13 (x := .int .i64 (wrapF .i64 (((l1.length:Nat):Int)+1))) (.int .i64 ((((l1++[x]).length:Nat):Int))) (by rw [wr64 (n:=((l1.length:Nat):Int)+1) (by omega) (by omega)];congr 1;simp) ?_
    exact gU _ [(0,.v (.slice a1 n1 cap1)),(1,.v (.slice a2 n2 cap2)),(11,.v (.slice a1 n1 cap1)),(12,.v (.int .i64 (n1:Int))),(13,.v (.int .i64 ((l1++[x]).length:Int)))] [] gz (fun b hb=>hγ0 b hb) (ih (l1++[x],l3,m3) ⟨(by show L=(l1++[_])++l3;rw [hI1];simp),(by show M=(l1++[_])++m3;rw [hI2,← hxy];simp)⟩ (by show l3.length<(_::l3).length;simp))
open Go.Sy in
set_option maxRecDepth 100000 in
theorem eqVars_any (L M:List Vr) (a1 a2:Option Addr) (n1 n2 cap1 cap2:Nat) (xs1 xs2:List Value) (w:World) (hn1:n1=L.length) (hn2:n2=M.length) (hbd:n1≤1099511627776)
  (hsl1:Sy.SlAt (·<w.heap.size) w a1 n1 3 xs1) (hsl2:Sy.SlAt (·<w.heap.size) w a2 n2 3 xs2) (hks1:LsAt VrAt L xs1) (hks2:LsAt VrAt M xs2):
  Calls Tryz.prog 75 #[.slice a1 n1 cap1,.slice a2 n2 cap2] w fun r w'=>r = .returned (.bool (sameB L M))∧Below w.heap.size w w':=by
 refine Sy.enter (vs:=[.slice a1 n1 cap1,.slice a2 n2 cap2]) sy_fine Tryz.func75 rfl (fun γ=>norms_LR _) rfl (fun γ0 hγ0=>?_)
 refine rk ?_
 refine good_cond (b:=!(intEq (n1:Int) (n2:Int))) (by kernel_rfl) (fun hnn=>?_) (fun hnn=>?_)
 ·
  refine rs [] 60 2 ?_
  refine gR (.bool false) (fun W hk=>⟨?_,hk.below⟩)
  rw [sameB_f]
  intro h
  rw [intEq_eq] at hnn;simp_all
 have hnn1:n1=n2:=by rw [intEq_eq] at hnn;have:(n1:Int)=(n2:Int):=(by simpa using hnn);omega
 refine rk ?_
 refine good_toLp ?_
 refine good_loopI (fun i:List Vr×List Vr×List Vr=>i.2.1.length) (fun i=>L=i.1++i.2.1∧M=i.1++i.2.2) (fun i=>⟨mkT [(0,.v (.slice a1 n1 cap1)),(1,.v (.slice a2 n2 cap2)),(11,.v (.slice a1 n1 cap1)),(12,.v (.int .i64 (n1:Int))),(13,.v (.int .i64 (i.1.length:Int)))],mkH [],gz,[]⟩)
  ([],L,M) ⟨rfl,rfl⟩ (by kernel_rfl)
  (fun h=>good_sub _ [(0,.v (.slice a1 n1 cap1)),(1,.v (.slice a2 n2 cap2)),(11,.v (.slice a1 n1 cap1)),(12,.v (.int .i64 (n1:Int))),(13,.v (.int .i64 (([]:List Vr).length:Int)))] [] gz rfl (by kernel_rfl) (by kernel_rfl) (by kernel_rfl) (by kernel_rfl) (by kernel_rfl) (fun b hb=>hγ0 b hb) (by kernel_rfl) h) ?_
 rintro ⟨l1,l2,m2⟩ ⟨hI1,hI2⟩ ih
 simp only at hI1 hI2
 have hq1:n1=l1.length+l2.length:=by rw [hn1,hI1,List.length_append]
 have hq2:n2=l1.length+m2.length:=by rw [hn2,hI2,List.length_append]
 refine rk ?_
 cases l2 with
 | nil=>
   obtain rfl:m2=[]:=List.eq_nil_of_length_eq_zero (by simp only [List.length_nil] at hq1;omega)
   refine gK false (b:=intLt (l1.length:Int) (n1:Int)) (lt_f (by rw [hq1];simp)) ?_
   refine rk ?_
   refine gR (.bool true) (fun W hk=>⟨?_,hk.below⟩)
   rw [sameB_t.2 (by rw [hI1,hI2])]
 | cons x l3=>
   obtain ⟨y,m3,rfl⟩:∃ y m3,m2=y::m3:=by
    cases m2 with
    | nil=>simp only [List.length_nil,List.length_cons] at hq1 hq2;omega
    | cons a b=>exact ⟨a,b,rfl⟩
   have hin1:l1.length<n1:=by rw [hq1,List.length_cons];omega
   have hin2:l1.length<n2:=by omega
   have hks1':=hks1
   have hks2':=hks2
   rw [hI1] at hks1'
   rw [hI2] at hks2'
   obtain ⟨c1,hc1,hcell1⟩:=hks1'.at_ (fun _ _ h=>h.len)
   obtain ⟨c2,hc2,hcell2⟩:=hks2'.at_ (fun _ _ h=>h.len)
   refine gK true (b:=intLt (l1.length:Int) (n1:Int)) (lt_t (by omega)) ?_
   refine rk ?_
   obtain rfl:c1=[.string (str x.name),.int .u8 x.ty,.int .u64 x.bits]:=hc1
   obtain rfl:c2=[.string (str y.name),.int .u8 y.ty,.int .u64 y.bits]:=hc2
   refine good_draw sy_mixed (by kernel_rfl) ?_
   refine q_run [] 60 ?_
   refine qV (.pointer (some ⟨gB a1,oB a1+l1.length*3,none⟩)) (S:=Instr.indexAt 22 (.slice a1 n1 cap1) (.int .i64 (l1.length:Int))) (fun W _=>idx_sl (e:=67) hsl1 (by kernel_rfl) (by kernel_rfl) hin1 W) ?_
   refine q_run [] 60 ?_
   refine qV (.agg #[.string (str x.name),.int .u8 x.ty,.int .u64 x.bits]) (S:=Instr.loadAt 67 (.pointer (some ⟨gB a1,oB a1+l1.length*3+0,none⟩))) (fun W hk=>load_slA (P:=Tryz.prog) (ty:=67) (m:=3) (cs:=[.string (str x.name),.int .u8 x.ty,.int .u64 x.bits]) hsl1 (by kernel_rfl) (by kernel_rfl) l1.length 0 rfl hcell1 hk) ?_
   refine q_run [] 60 ?_
   refine qV (.pointer (some ⟨gB a2,oB a2+l1.length*3,none⟩)) (S:=Instr.indexAt 22 (.slice a2 n2 cap2) (.int .i64 (l1.length:Int))) (fun W _=>idx_sl (e:=67) hsl2 (by kernel_rfl) (by kernel_rfl) hin2 W) ?_
   refine q_run [] 60 ?_
   refine qV (.agg #[.string (str y.name),.int .u8 y.ty,.int .u64 y.bits]) (S:=Instr.loadAt 67 (.pointer (some ⟨gB a2,oB a2+l1.length*3+0,none⟩))) (fun W hk=>load_slA (P:=Tryz.prog) (ty:=67) (m:=3) (cs:=[.string (str y.name),.int .u8 y.ty,.int .u64 y.bits]) hsl2 (by kernel_rfl) (by kernel_rfl) l1.length 0 rfl hcell2 hk) ?_
   refine q_run [24] 60 ?_
   refine qV (.bool (!(vrEq x y))) (S:=do eqGuard .neq 67 (.tmp 19) (.tmp 23) (.agg #[.string (str x.name),.int .u8 x.ty,.int .u64 x.bits]) (.agg #[.string (str y.name),.int .u8 y.ty,.int .u64 y.bits]);binOp .neq 67 (.agg #[.string (str x.name),.int .u8 x.ty,.int .u64 x.bits]) (.agg #[.string (str y.name),.int .u8 y.ty,.int .u64 y.bits])) (fun W _=>run_neq_var _ _ _ _ W) ?_
   refine q_run [] 60 ?_
   refine qE ?_
   refine rk ?_
   refine good_cond (b:=!(vrEq x y)) (by kernel_rfl) (fun hss=>?_) (fun hss=>?_)
   ·
    have hne:x≠y:=fun h=>by rw [vrEq_t.2 h] at hss;cases hss
    refine rs [] 60 2 ?_
    refine gR (.bool false) (fun W hk=>⟨?_,hk.below⟩)
    rw [sameB_f]
    intro h
    rw [hI1,hI2] at h
    have h2:=(List.cons.inj (List.append_cancel_left h)).1
    exact hne h2
   ·
    have hxy:x=y:=vrEq_t.1 (by simpa using hss)
    refine rs [] 60 2 ?_
    refine gS 13 (x := .int .i64 (wrapF .i64 (((l1.length:Nat):Int)+1))) (.int .i64 ((((l1++[x]).length:Nat):Int))) (by rw [wr64 (n:=((l1.length:Nat):Int)+1) (by omega) (by omega)];congr 1;simp) ?_
    exact gU _ [(0,.v (.slice a1 n1 cap1)),(1,.v (.slice a2 n2 cap2)),(11,.v (.slice a1 n1 cap1)),(12,.v (.int .i64 (n1:Int))),(13,.v (.int .i64 ((l1++[x]).length:Int)))] [] gz (fun b hb=>hγ0 b hb) (ih (l1++[x],l3,m3) ⟨(by show L=(l1++[_])++l3;rw [hI1];simp),(by show M=(l1++[_])++m3;rw [hI2,← hxy];simp)⟩ (by show l3.length<(_::l3).length;simp))
end Go.Proofs.YtiacalnkmnckjaaGreatDoor
end
section
namespace Go.Proofs.YtiacalnkmnckjaaGreatDoor
open Go.RowKit Go.As
theorem run_eql_value (ox oy:Operand) (a b c d:Int) (w:World):
  (do eqGuard .eql 31 ox oy (.agg #[.int .u8 a,.int .u64 b]) (.agg #[.int .u8 c,.int .u64 d]);binOp .eql 31 (.agg #[.int .u8 a,.int .u64 b]) (.agg #[.int .u8 c,.int .u64 d]):Sem Value).run Tryz.prog w = .ok (.bool (vEq a b c d)) w:=by
 have h1:(eqGuard .eql 31 ox oy (.agg #[.int .u8 a,.int .u64 b]) (.agg #[.int .u8 c,.int .u64 d])).run Tryz.prog w = .ok () w:=by
  have:=valueGuard
  unfold eqGuard
  go_simp
 have h2:(binOp .eql 31 (.agg #[.int .u8 a,.int .u64 b]) (.agg #[.int .u8 c,.int .u64 d])).run Tryz.prog w = .ok (.bool (vEq a b c d)) w:=by
  rw [run_eql_struct,run_eqi_value]
  rfl
 exact Sy.eqG2 h1 h2
open Go.Sy in
set_option maxRecDepth 100000 in
theorem eqFuncEx (N:Nat) (H:∀ (e1 e2:Ex) (cs1 cs2:List Value) (w:World),wgt e1≤N→wgt e1≤1099511627776→ExAt (·<w.heap.size) w e1 cs1→ExAt (·<w.heap.size) w e2 cs2→
   Calls Tryz.prog 209 #[.agg cs1.toArray,.agg cs2.toArray] w fun r w'=>r = .returned (.bool (sameB e1 e2))∧Below w.heap.size w w')
  (L M:List Ex) (a1 a2:Option Addr) (n1 n2 cap1 cap2:Nat) (xs1 xs2:List Value) (w:World) (hn1:n1=L.length) (hn2:n2=M.length) (hN:wgts L≤N) (hbd:wgts L≤1099511627776)
  (hsl1:SlAt (·<w.heap.size) w a1 n1 5 xs1) (hsl2:SlAt (·<w.heap.size) w a2 n2 5 xs2) (hks1:ExsAt (·<w.heap.size) w L xs1) (hks2:ExsAt (·<w.heap.size) w M xs2):
  Calls Tryz.prog 242 #[.slice a1 n1 cap1,.slice a2 n2 cap2,.func (.func 209) #[] #[]] w fun r w'=>r = .returned (.bool (sameB L M))∧Below w.heap.size w w':=by
 have hnl:=wgts_len L
 refine Sy.enter (vs:=[.slice a1 n1 cap1,.slice a2 n2 cap2,.func (.func 209) #[] #[]]) sy_fine Tryz.func242 rfl (fun γ=>norms_LR _) rfl (fun γ0 hγ0=>?_)
 refine rk ?_
 refine good_cond (b:=!(intEq (n1:Int) (n2:Int))) (by kernel_rfl) (fun hnn=>?_) (fun hnn=>?_)
 ·
  refine rs [] 60 2 ?_
  refine gR (.bool false) (fun W hk=>⟨?_,hk.below⟩)
  rw [sameB_f]
  intro h
  rw [intEq_eq] at hnn;simp_all
 have hnn1:n1=n2:=by rw [intEq_eq] at hnn;have:(n1:Int)=(n2:Int):=(by simpa using hnn);omega
 refine rk ?_
 refine good_toLp ?_
 refine good_loopI (fun i:List Ex×List Ex×List Ex=>i.2.1.length) (fun i=>L=i.1++i.2.1∧M=i.1++i.2.2) (fun i=>⟨mkT [(0,.v (.slice a1 n1 cap1)),(1,.v (.slice a2 n2 cap2)),(2,norm (.func (.func 209) #[] #[])),(15,.v (.slice a1 n1 cap1)),(16,.v (.int .i64 (n1:Int))),(17,.v (.int .i64 (i.1.length:Int)))],mkH [],gz,[]⟩)
  ([],L,M) ⟨rfl,rfl⟩ (by kernel_rfl)
  (fun h=>good_sub _ [(0,.v (.slice a1 n1 cap1)),(1,.v (.slice a2 n2 cap2)),(2,norm (.func (.func 209) #[] #[])),(15,.v (.slice a1 n1 cap1)),(16,.v (.int .i64 (n1:Int))),(17,.v (.int .i64 (([]:List Ex).length:Int)))] [] gz rfl (by kernel_rfl) (by kernel_rfl) (by kernel_rfl) (by kernel_rfl) (by kernel_rfl) (fun b hb=>hγ0 b hb) (by kernel_rfl) h) ?_
 rintro ⟨l1,l2,m2⟩ ⟨hI1,hI2⟩ ih
 simp only at hI1 hI2
 have hq1:n1=l1.length+l2.length:=by rw [hn1,hI1,List.length_append]
 have hq2:n2=l1.length+m2.length:=by rw [hn2,hI2,List.length_append]
 refine rk ?_
 cases l2 with
 | nil=>
   obtain rfl:m2=[]:=List.eq_nil_of_length_eq_zero (by simp only [List.length_nil] at hq1;omega)
   refine gK false (b:=intLt (l1.length:Int) (n1:Int)) (lt_f (by rw [hq1];simp)) ?_
   refine rk ?_
   refine gR (.bool true) (fun W hk=>⟨?_,hk.below⟩)
   rw [sameB_t.2 (by rw [hI1,hI2])]
 | cons x l3=>
   obtain ⟨y,m3,rfl⟩:∃ y m3,m2=y::m3:=by
    cases m2 with
    | nil=>simp only [List.length_nil,List.length_cons] at hq1 hq2;omega
    | cons a b=>exact ⟨a,b,rfl⟩
   have hin1:l1.length<n1:=by rw [hq1,List.length_cons];omega
   have hin2:l1.length<n2:=by omega
   have hks1':=ExsAt_ls.1 hks1
   have hks2':=ExsAt_ls.1 hks2
   rw [hI1] at hks1'
   rw [hI2] at hks2'
   obtain ⟨c1,hc1,hcell1⟩:=hks1'.at_ (fun _ _ h=>h.len)
   obtain ⟨c2,hc2,hcell2⟩:=hks2'.at_ (fun _ _ h=>h.len)
   refine gK true (b:=intLt (l1.length:Int) (n1:Int)) (lt_t (by omega)) ?_
   refine rk ?_
   have hwl:wgts L=wgts l1+(wgt x+wgts l3):=by rw [hI1,wgts_app];simp [wgts]
   have hc1k:=fun W (hk:Keep (·<w.heap.size) w W)=>hc1.keep hk (fun k h=>Nat.lt_of_lt_of_le h hk.size)
   have hc2k:=fun W (hk:Keep (·<w.heap.size) w W)=>hc2.keep hk (fun k h=>Nat.lt_of_lt_of_le h hk.size)
   obtain ⟨uop,uty,ubits,uen,uek⟩:=x
   simp only [ExAt] at hc1
   obtain ⟨uea,uec,uex,rfl,_⟩:=hc1
   obtain ⟨vop,vty,vbits,ven,vek⟩:=y
   simp only [ExAt] at hc2
   obtain ⟨vea,vec,vex,rfl,_⟩:=hc2
   refine gV (.pointer (some ⟨gB a1,oB a1+l1.length*5,none⟩)) (S:=Instr.indexAt 32 (.slice a1 n1 cap1) (.int .i64 (l1.length:Int))) (fun W _=>idx_sl (e:=34) hsl1 (by kernel_rfl) (by kernel_rfl) hin1 W) ?_
   refine rk ?_
   refine gV (.agg #[.int .u8 uop,.int .u8 uty,.int .u64 ubits,.string (str uen),.slice uea uek.length uec]) (S:=Instr.loadAt 34 (.pointer (some ⟨gB a1,oB a1+l1.length*5+0,none⟩))) (fun W hk=>load_slA (P:=Tryz.prog) (ty:=34) (m:=5) (cs:=[.int .u8 uop,.int .u8 uty,.int .u64 ubits,.string (str uen),.slice uea uek.length uec]) hsl1 (by kernel_rfl) (by kernel_rfl) l1.length 0 rfl hcell1 hk) ?_
   refine rk ?_
   refine gV (.pointer (some ⟨gB a2,oB a2+l1.length*5,none⟩)) (S:=Instr.indexAt 32 (.slice a2 n2 cap2) (.int .i64 (l1.length:Int))) (fun W _=>idx_sl (e:=34) hsl2 (by kernel_rfl) (by kernel_rfl) hin2 W) ?_
   refine rk ?_
   refine gV (.agg #[.int .u8 vop,.int .u8 vty,.int .u64 vbits,.string (str ven),.slice vea vek.length vec]) (S:=Instr.loadAt 34 (.pointer (some ⟨gB a2,oB a2+l1.length*5+0,none⟩))) (fun W hk=>load_slA (P:=Tryz.prog) (ty:=34) (m:=5) (cs:=[.int .u8 vop,.int .u8 vty,.int .u64 vbits,.string (str ven),.slice vea vek.length vec]) hsl2 (by kernel_rfl) (by kernel_rfl) l1.length 0 rfl hcell2 hk) ?_
   refine rk ?_
   refine gX [.agg #[.int .u8 uop,.int .u8 uty,.int .u64 ubits,.string (str uen),.slice uea uek.length uec],.agg #[.int .u8 vop,.int .u8 vty,.int .u64 vbits,.string (str ven),.slice vea vek.length vec]] (.bool (sameB (Ex.mk uop uty ubits uen uek) (Ex.mk vop vty vbits ven vek))) (fun W hk=>H (Ex.mk uop uty ubits uen uek) (Ex.mk vop vty vbits ven vek) [.int .u8 uop,.int .u8 uty,.int .u64 ubits,.string (str uen),.slice uea uek.length uec] [.int .u8 vop,.int .u8 vty,.int .u64 vbits,.string (str ven),.slice vea vek.length vec] W (by omega) (by omega) (hc1k W hk) (hc2k W hk)) ?_
   refine rk ?_
   refine good_cond (b:=!(sameB (Ex.mk uop uty ubits uen uek) (Ex.mk vop vty vbits ven vek))) (by kernel_rfl) (fun hss=>?_) (fun hss=>?_)
   ·
    have hne:(Ex.mk uop uty ubits uen uek)≠(Ex.mk vop vty vbits ven vek):=fun h=>by rw [sameB_t.2 h] at hss;cases hss
    refine rs [] 60 2 ?_
    refine gR (.bool false) (fun W hk=>⟨?_,hk.below⟩)
    rw [sameB_f]
    intro h
    rw [hI1,hI2] at h
    have h2:=(List.cons.inj (List.append_cancel_left h)).1
    exact hne h2
   ·
    have hxy:(Ex.mk uop uty ubits uen uek)=(Ex.mk vop vty vbits ven vek):=sameB_t.1 (by simpa using hss)
    refine rs [] 60 2 ?_
    refine gS 17 (x := .int .i64 (wrapF .i64 (((l1.length:Nat):Int)+1))) (.int .i64 ((((l1++[(Ex.mk uop uty ubits uen uek)]).length:Nat):Int))) (by rw [wr64 (n:=((l1.length:Nat):Int)+1) (by omega) (by omega)];congr 1;simp) ?_
    exact gU _ [(0,.v (.slice a1 n1 cap1)),(1,.v (.slice a2 n2 cap2)),(2,norm (.func (.func 209) #[] #[])),(15,.v (.slice a1 n1 cap1)),(16,.v (.int .i64 (n1:Int))),(17,.v (.int .i64 ((l1++[(Ex.mk uop uty ubits uen uek)]).length:Int)))] [] gz (fun b hb=>hγ0 b hb) (ih (l1++[(Ex.mk uop uty ubits uen uek)],l3,m3) ⟨(by show L=(l1++[_])++l3;rw [hI1];simp),(by show M=(l1++[_])++m3;rw [hI2,← hxy];simp)⟩ (by show l3.length<(_::l3).length;simp))
open Go.Sy in
set_option maxRecDepth 100000 in
theorem tsameExpr_any:∀ (N:Nat) (e1 e2:Ex) (cs1 cs2:List Value) (w:World),wgt e1≤N→wgt e1≤1099511627776→ExAt (·<w.heap.size) w e1 cs1→ExAt (·<w.heap.size) w e2 cs2→
  Calls Tryz.prog 209 #[.agg cs1.toArray,.agg cs2.toArray] w fun r w'=>r = .returned (.bool (sameB e1 e2))∧Below w.heap.size w w':=by
 intro N
 induction N with
 | zero=>intro e1 e2 cs1 cs2 w h;have:=wgt_pos e1;omega
 | succ N ihN=>
   intro e1 e2 cs1 cs2 w hN hbd hat1 hat2
   obtain ⟨uop,uty,ubits,uen,uek⟩:=e1
   obtain ⟨vop,vty,vbits,ven,vek⟩:=e2
   simp only [ExAt] at hat1 hat2
   obtain ⟨uea,uec,uxs,rfl,uhs,uht⟩:=hat1
   obtain ⟨vea,vec,vxs,rfl,vhs,vht⟩:=hat2
   simp only [wgt] at hN hbd
   refine Sy.enter (vs:=[.agg #[.int .u8 uop,.int .u8 uty,.int .u64 ubits,.string (str uen),.slice uea uek.length uec],.agg #[.int .u8 vop,.int .u8 vty,.int .u64 vbits,.string (str ven),.slice vea vek.length vec]]) sy_fine Tryz.func209 rfl (fun γ=>norms_LR _) rfl (fun γ0 hγ0=>?_)
   refine rs [11] 60 0 ?_
   rcases Bool.eq_false_or_eq_true (intEq uop vop) with h1 | h1
   rotate_left
   ·
    refine gS 9 (x := .bool (intEq uop vop)) (.bool false) (by rw [h1]) ?_
    refine gS 10 (x := .bool (intEq uop vop)) (.bool false) (by rw [h1]) ?_
    refine rs [] 60 4 ?_
    refine gR (.bool false) (fun W hk=>⟨?_,hk.below⟩)
    rw [sameB_f]
    intro h
    injection h with e1 e2 e3 e4 e5
    rw [intEq_eq] at h1;simp_all
   refine gS 9 (x := .bool (intEq uop vop)) (.bool true) (by rw [h1]) ?_
   refine gS 10 (x := .bool (intEq uop vop)) (.bool true) (by rw [h1]) ?_
   refine rs [15] 60 0 ?_
   refine gV (.bool (vEq uty ubits vty vbits)) (S:=do eqGuard .eql 31 (.tmp 12) (.tmp 14) (.agg #[.int .u8 uty,.int .u64 ubits]) (.agg #[.int .u8 vty,.int .u64 vbits]);binOp .eql 31 (.agg #[.int .u8 uty,.int .u64 ubits]) (.agg #[.int .u8 vty,.int .u64 vbits])) (fun W _=>run_eql_value _ _ _ _ _ _ W) ?_
   refine rs [18] 60 0 ?_
   rcases Bool.eq_false_or_eq_true (vEq uty ubits vty vbits) with h2 | h2
   rotate_left
   ·
    refine gS 15 (x := .bool (vEq uty ubits vty vbits)) (.bool false) (by rw [h2]) ?_
    refine gS 16 (x := .bool (vEq uty ubits vty vbits)) (.bool false) (by rw [h2]) ?_
    refine gS 17 (x := .bool (vEq uty ubits vty vbits)) (.bool false) (by rw [h2]) ?_
    refine rs [] 60 4 ?_
    refine gR (.bool false) (fun W hk=>⟨?_,hk.below⟩)
    rw [sameB_f]
    intro h
    injection h with e1 e2 e3 e4 e5
    simp only [vEq,intEq_eq] at h2;simp_all
   refine gS 15 (x := .bool (vEq uty ubits vty vbits)) (.bool true) (by rw [h2]) ?_
   refine gS 16 (x := .bool (vEq uty ubits vty vbits)) (.bool true) (by rw [h2]) ?_
   refine gS 17 (x := .bool (vEq uty ubits vty vbits)) (.bool true) (by rw [h2]) ?_
   refine rs [25] 60 0 ?_
   rcases Bool.eq_false_or_eq_true (bEqL uen ven) with h3 | h3
   rotate_left
   ·
    refine gS 22 (x := .bool (bEqL uen ven)) (.bool false) (by rw [h3]) ?_
    refine gS 23 (x := .bool (bEqL uen ven)) (.bool false) (by rw [h3]) ?_
    refine gS 24 (x := .bool (bEqL uen ven)) (.bool false) (by rw [h3]) ?_
    refine rs [] 60 4 ?_
    refine gR (.bool false) (fun W hk=>⟨?_,hk.below⟩)
    rw [sameB_f]
    intro h
    injection h with e1 e2 e3 e4 e5
    rw [bEqL_eq] at h3;simp_all
   refine gS 22 (x := .bool (bEqL uen ven)) (.bool true) (by rw [h3]) ?_
   refine gS 23 (x := .bool (bEqL uen ven)) (.bool true) (by rw [h3]) ?_
   refine gS 24 (x := .bool (bEqL uen ven)) (.bool true) (by rw [h3]) ?_
   refine rk ?_
   refine gX [.slice uea uek.length uec,.slice vea vek.length vec,.func (.func 209) #[] #[]] (.bool (sameB uek vek)) (fun W hk=>eqFuncEx N ihN uek vek _ _ _ _ _ _ _ _ W rfl rfl (by omega) (by omega) ((uhs.keep hk).mono (fun k h=>Nat.lt_of_lt_of_le h hk.size)) ((vhs.keep hk).mono (fun k h=>Nat.lt_of_lt_of_le h hk.size)) (uht.keep hk (fun k h=>Nat.lt_of_lt_of_le h hk.size)) (vht.keep hk (fun k h=>Nat.lt_of_lt_of_le h hk.size))) ?_
   refine rk ?_
   refine gR (.bool (sameB uek vek)) (fun W hk=>⟨?_,hk.below⟩)
   have g1:uop=vop:=by rw [intEq_eq] at h1;simpa using h1
   have g2:uty=vty∧ubits=vbits:=by simp only [vEq,intEq_eq] at h2;simpa using h2
   have g3:uen=ven:=by rw [bEqL_eq] at h3;simpa using h3
   obtain ⟨g4,g5⟩:=g2
   rcases Bool.eq_false_or_eq_true (sameB uek vek) with hq | hq
   · rw [hq,sameB_t.2]
     rw [g1,g3,g4,g5,sameB_t.1 hq]
   · rw [hq,sameB_f]
     intro h
     injection h with e1 e2 e3 e4 e5
     rw [sameB_t.2 e5] at hq
     cases hq
end Go.Proofs.YtiacalnkmnckjaaGreatDoor
end
section
namespace Go.Proofs.YtiacalnkmnckjaaGreatDoor
open Go.RowKit Go.As
open Go.Sy in
set_option maxRecDepth 100000 in
theorem eqFuncSt (N:Nat) (H:∀ (e1 e2:St) (cs1 cs2:List Value) (w:World),swt e1≤N→swt e1≤1000000000000→StAt (·<w.heap.size) w e1 cs1→StAt (·<w.heap.size) w e2 cs2→
   Calls Tryz.prog 144 #[.agg cs1.toArray,.agg cs2.toArray] w fun r w'=>r = .returned (.bool (sameB e1 e2))∧Below w.heap.size w w')
  (L M:List St) (a1 a2:Option Addr) (n1 n2 cap1 cap2:Nat) (xs1 xs2:List Value) (w:World) (hn1:n1=L.length) (hn2:n2=M.length) (hN:swts L≤N) (hbd:swts L≤1000000000000)
  (hsl1:SlAt (·<w.heap.size) w a1 n1 9 xs1) (hsl2:SlAt (·<w.heap.size) w a2 n2 9 xs2) (hks1:LsAt (StAt (·<w.heap.size) w) L xs1) (hks2:LsAt (StAt (·<w.heap.size) w) M xs2):
  Calls Tryz.prog 143 #[.slice a1 n1 cap1,.slice a2 n2 cap2,.func (.func 144) #[] #[]] w fun r w'=>r = .returned (.bool (sameB L M))∧Below w.heap.size w w':=by
 refine Sy.enter (vs:=[.slice a1 n1 cap1,.slice a2 n2 cap2,.func (.func 144) #[] #[]]) sy_fine Tryz.func143 rfl (fun γ=>norms_LR _) rfl (fun γ0 hγ0=>?_)
 refine rk ?_
 refine good_cond (b:=!(intEq (n1:Int) (n2:Int))) (by kernel_rfl) (fun hnn=>?_) (fun hnn=>?_)
 ·
  refine rs [] 60 2 ?_
  refine gR (.bool false) (fun W hk=>⟨?_,hk.below⟩)
  rw [sameB_f]
  intro h
  rw [intEq_eq] at hnn;simp_all
 have hnn1:n1=n2:=by rw [intEq_eq] at hnn;have:(n1:Int)=(n2:Int):=(by simpa using hnn);omega
 refine rk ?_
 refine good_toLp ?_
 refine good_loopI (fun i:List St×List St×List St=>i.2.1.length) (fun i=>L=i.1++i.2.1∧M=i.1++i.2.2) (fun i=>⟨mkT [(0,.v (.slice a1 n1 cap1)),(1,.v (.slice a2 n2 cap2)),(2,norm (.func (.func 144) #[] #[])),(15,.v (.slice a1 n1 cap1)),(16,.v (.int .i64 (n1:Int))),(17,.v (.int .i64 (i.1.length:Int)))],mkH [],gz,[]⟩)
  ([],L,M) ⟨rfl,rfl⟩ (by kernel_rfl)
  (fun h=>good_sub _ [(0,.v (.slice a1 n1 cap1)),(1,.v (.slice a2 n2 cap2)),(2,norm (.func (.func 144) #[] #[])),(15,.v (.slice a1 n1 cap1)),(16,.v (.int .i64 (n1:Int))),(17,.v (.int .i64 (([]:List St).length:Int)))] [] gz rfl (by kernel_rfl) (by kernel_rfl) (by kernel_rfl) (by kernel_rfl) (by kernel_rfl) (fun b hb=>hγ0 b hb) (by kernel_rfl) h) ?_
 rintro ⟨l1,l2,m2⟩ ⟨hI1,hI2⟩ ih
 simp only at hI1 hI2
 have hq1:n1=l1.length+l2.length:=by rw [hn1,hI1,List.length_append]
 have hq2:n2=l1.length+m2.length:=by rw [hn2,hI2,List.length_append]
 refine rk ?_
 cases l2 with
 | nil=>
   obtain rfl:m2=[]:=List.eq_nil_of_length_eq_zero (by simp only [List.length_nil] at hq1;omega)
   refine gK false (b:=intLt (l1.length:Int) (n1:Int)) (lt_f (by rw [hq1];simp)) ?_
   refine rk ?_
   refine gR (.bool true) (fun W hk=>⟨?_,hk.below⟩)
   rw [sameB_t.2 (by rw [hI1,hI2])]
 | cons x l3=>
   obtain ⟨y,m3,rfl⟩:∃ y m3,m2=y::m3:=by
    cases m2 with
    | nil=>simp only [List.length_nil,List.length_cons] at hq1 hq2;omega
    | cons a b=>exact ⟨a,b,rfl⟩
   have hin1:l1.length<n1:=by rw [hq1,List.length_cons];omega
   have hin2:l1.length<n2:=by omega
   have hks1':=hks1
   have hks2':=hks2
   rw [hI1] at hks1'
   rw [hI2] at hks2'
   obtain ⟨c1,hc1,hcell1⟩:=hks1'.at_ (fun _ _ h=>h.len)
   obtain ⟨c2,hc2,hcell2⟩:=hks2'.at_ (fun _ _ h=>h.len)
   refine gK true (b:=intLt (l1.length:Int) (n1:Int)) (lt_t (by omega)) ?_
   refine rk ?_
   have hwl:swts L=swts l1+(swt x+swts l3):=by rw [hI1,swts_app];simp [swts]
   have hnl:=swts_len L
   have hc1k:=fun W (hk:Keep (·<w.heap.size) w W)=>hc1.keep hk (fun k h=>Nat.lt_of_lt_of_le h hk.size)
   have hc2k:=fun W (hk:Keep (·<w.heap.size) w W)=>hc2.keep hk (fun k h=>Nat.lt_of_lt_of_le h hk.size)
   obtain ⟨ukind,usn,⟨uop,uty,ubits,uen,uek⟩,ubody,uels⟩:=x
   simp only [StAt] at hc1
   obtain ⟨ucs,uba,ubc,ubx,ula,ulc,ulx,rfl,uhe,uhbs,uhbt,uhls,uhlt⟩:=hc1
   have uhe0:=uhe
   simp only [ExAt] at uhe0
   obtain ⟨uea,uec,uex,rfl,_⟩:=uhe0
   have hcell1:∀ j v,([.int .i64 ukind,.string (str usn),.int .u8 uop,.int .u8 uty,.int .u64 ubits,.string (str uen),.slice uea uek.length uec,.slice uba ubody.length ubc,.slice ula uels.length ulc]:List Value)[j]?=some v→xs1[l1.length*9+j]?=some v:=hcell1
   have umid:∀ j v,([.int .u8 uop,.int .u8 uty,.int .u64 ubits,.string (str uen),.slice uea uek.length uec]:List Value)[j]?=some v→xs1[l1.length*9+2+j]?=some v:=cell_part hcell1 2 (mid_get [_,_] [.int .u8 uop,.int .u8 uty,.int .u64 ubits,.string (str uen),.slice uea uek.length uec] [_,_])
   obtain ⟨vkind,vsn,⟨vop,vty,vbits,ven,vek⟩,vbody,vels⟩:=y
   simp only [StAt] at hc2
   obtain ⟨vcs,vba,vbc,vbx,vla,vlc,vlx,rfl,vhe,vhbs,vhbt,vhls,vhlt⟩:=hc2
   have vhe0:=vhe
   simp only [ExAt] at vhe0
   obtain ⟨vea,vec,vex,rfl,_⟩:=vhe0
   have hcell2:∀ j v,([.int .i64 vkind,.string (str vsn),.int .u8 vop,.int .u8 vty,.int .u64 vbits,.string (str ven),.slice vea vek.length vec,.slice vba vbody.length vbc,.slice vla vels.length vlc]:List Value)[j]?=some v→xs2[l1.length*9+j]?=some v:=hcell2
   have vmid:∀ j v,([.int .u8 vop,.int .u8 vty,.int .u64 vbits,.string (str ven),.slice vea vek.length vec]:List Value)[j]?=some v→xs2[l1.length*9+2+j]?=some v:=cell_part hcell2 2 (mid_get [_,_] [.int .u8 vop,.int .u8 vty,.int .u64 vbits,.string (str ven),.slice vea vek.length vec] [_,_])
   refine gV (.pointer (some ⟨gB a1,oB a1+l1.length*9,none⟩)) (S:=Instr.indexAt 54 (.slice a1 n1 cap1) (.int .i64 (l1.length:Int))) (fun W _=>idx_sl (e:=56) hsl1 (by kernel_rfl) (by kernel_rfl) hin1 W) ?_
   refine rk ?_
   refine gV (.agg #[.int .i64 ukind,.string (str usn),.int .u8 uop,.int .u8 uty,.int .u64 ubits,.string (str uen),.slice uea uek.length uec,.slice uba ubody.length ubc,.slice ula uels.length ulc]) (S:=Instr.loadAt 56 (.pointer (some ⟨gB a1,oB a1+l1.length*9+0,none⟩))) (fun W hk=>load_slA (P:=Tryz.prog) (ty:=56) (m:=9) (cs:=[.int .i64 ukind,.string (str usn),.int .u8 uop,.int .u8 uty,.int .u64 ubits,.string (str uen),.slice uea uek.length uec,.slice uba ubody.length ubc,.slice ula uels.length ulc]) hsl1 (by kernel_rfl) (by kernel_rfl) l1.length 0 rfl hcell1 hk) ?_
   refine rk ?_
   refine gV (.pointer (some ⟨gB a2,oB a2+l1.length*9,none⟩)) (S:=Instr.indexAt 54 (.slice a2 n2 cap2) (.int .i64 (l1.length:Int))) (fun W _=>idx_sl (e:=56) hsl2 (by kernel_rfl) (by kernel_rfl) hin2 W) ?_
   refine rk ?_
   refine gV (.agg #[.int .i64 vkind,.string (str vsn),.int .u8 vop,.int .u8 vty,.int .u64 vbits,.string (str ven),.slice vea vek.length vec,.slice vba vbody.length vbc,.slice vla vels.length vlc]) (S:=Instr.loadAt 56 (.pointer (some ⟨gB a2,oB a2+l1.length*9+0,none⟩))) (fun W hk=>load_slA (P:=Tryz.prog) (ty:=56) (m:=9) (cs:=[.int .i64 vkind,.string (str vsn),.int .u8 vop,.int .u8 vty,.int .u64 vbits,.string (str ven),.slice vea vek.length vec,.slice vba vbody.length vbc,.slice vla vels.length vlc]) hsl2 (by kernel_rfl) (by kernel_rfl) l1.length 0 rfl hcell2 hk) ?_
   refine rk ?_
   refine gX [.agg #[.int .i64 ukind,.string (str usn),.int .u8 uop,.int .u8 uty,.int .u64 ubits,.string (str uen),.slice uea uek.length uec,.slice uba ubody.length ubc,.slice ula uels.length ulc],.agg #[.int .i64 vkind,.string (str vsn),.int .u8 vop,.int .u8 vty,.int .u64 vbits,.string (str ven),.slice vea vek.length vec,.slice vba vbody.length vbc,.slice vla vels.length vlc]] (.bool (sameB (St.mk ukind usn (Ex.mk uop uty ubits uen uek) ubody uels) (St.mk vkind vsn (Ex.mk vop vty vbits ven vek) vbody vels))) (fun W hk=>H (St.mk ukind usn (Ex.mk uop uty ubits uen uek) ubody uels) (St.mk vkind vsn (Ex.mk vop vty vbits ven vek) vbody vels) [.int .i64 ukind,.string (str usn),.int .u8 uop,.int .u8 uty,.int .u64 ubits,.string (str uen),.slice uea uek.length uec,.slice uba ubody.length ubc,.slice ula uels.length ulc] [.int .i64 vkind,.string (str vsn),.int .u8 vop,.int .u8 vty,.int .u64 vbits,.string (str ven),.slice vea vek.length vec,.slice vba vbody.length vbc,.slice vla vels.length vlc] W (by omega) (by omega) (hc1k W hk) (hc2k W hk)) ?_
   refine rk ?_
   refine good_cond (b:=!(sameB (St.mk ukind usn (Ex.mk uop uty ubits uen uek) ubody uels) (St.mk vkind vsn (Ex.mk vop vty vbits ven vek) vbody vels))) (by kernel_rfl) (fun hss=>?_) (fun hss=>?_)
   ·
    have hne:(St.mk ukind usn (Ex.mk uop uty ubits uen uek) ubody uels)≠(St.mk vkind vsn (Ex.mk vop vty vbits ven vek) vbody vels):=fun h=>by rw [sameB_t.2 h] at hss;cases hss
    refine rs [] 60 2 ?_
    refine gR (.bool false) (fun W hk=>⟨?_,hk.below⟩)
    rw [sameB_f]
    intro h
    rw [hI1,hI2] at h
    have h2:=(List.cons.inj (List.append_cancel_left h)).1
    exact hne h2
   ·
    have hxy:(St.mk ukind usn (Ex.mk uop uty ubits uen uek) ubody uels)=(St.mk vkind vsn (Ex.mk vop vty vbits ven vek) vbody vels):=sameB_t.1 (by simpa using hss)
    refine rs [] 60 2 ?_
    refine gS 17 (x := .int .i64 (wrapF .i64 (((l1.length:Nat):Int)+1))) (.int .i64 ((((l1++[(St.mk ukind usn (Ex.mk uop uty ubits uen uek) ubody uels)]).length:Nat):Int))) (by rw [wr64 (n:=((l1.length:Nat):Int)+1) (by omega) (by omega)];congr 1;simp) ?_
    exact gU _ [(0,.v (.slice a1 n1 cap1)),(1,.v (.slice a2 n2 cap2)),(2,norm (.func (.func 144) #[] #[])),(15,.v (.slice a1 n1 cap1)),(16,.v (.int .i64 (n1:Int))),(17,.v (.int .i64 ((l1++[(St.mk ukind usn (Ex.mk uop uty ubits uen uek) ubody uels)]).length:Int)))] [] gz (fun b hb=>hγ0 b hb) (ih (l1++[(St.mk ukind usn (Ex.mk uop uty ubits uen uek) ubody uels)],l3,m3) ⟨(by show L=(l1++[_])++l3;rw [hI1];simp),(by show M=(l1++[_])++m3;rw [hI2,← hxy];simp)⟩ (by show l3.length<(_::l3).length;simp))
open Go.Sy in
set_option maxRecDepth 100000 in
theorem tsameStmt_any:∀ (N:Nat) (e1 e2:St) (cs1 cs2:List Value) (w:World),swt e1≤N→swt e1≤1000000000000→StAt (·<w.heap.size) w e1 cs1→StAt (·<w.heap.size) w e2 cs2→
  Calls Tryz.prog 144 #[.agg cs1.toArray,.agg cs2.toArray] w fun r w'=>r = .returned (.bool (sameB e1 e2))∧Below w.heap.size w w':=by
 intro N
 induction N with
 | zero=>intro e1 e2 cs1 cs2 w h;have:=swt_pos e1;omega
 | succ N ihN=>
   intro e1 e2 cs1 cs2 w hN hbd hat1 hat2
   obtain ⟨ukind,usn,⟨uop,uty,ubits,uen,uek⟩,ubody,uels⟩:=e1
   simp only [StAt] at hat1
   obtain ⟨ucs,uba,ubc,ubx,ula,ulc,ulx,rfl,uhe,uhbs,uhbt,uhls,uhlt⟩:=hat1
   have uhe0:=uhe
   simp only [ExAt] at uhe0
   obtain ⟨uea,uec,uex,rfl,_⟩:=uhe0
   obtain ⟨vkind,vsn,⟨vop,vty,vbits,ven,vek⟩,vbody,vels⟩:=e2
   simp only [StAt] at hat2
   obtain ⟨vcs,vba,vbc,vbx,vla,vlc,vlx,rfl,vhe,vhbs,vhbt,vhls,vhlt⟩:=hat2
   have vhe0:=vhe
   simp only [ExAt] at vhe0
   obtain ⟨vea,vec,vex,rfl,_⟩:=vhe0
   simp only [swt] at hN hbd
   refine Sy.enter (vs:=[.agg #[.int .i64 ukind,.string (str usn),.int .u8 uop,.int .u8 uty,.int .u64 ubits,.string (str uen),.slice uea uek.length uec,.slice uba ubody.length ubc,.slice ula uels.length ulc],.agg #[.int .i64 vkind,.string (str vsn),.int .u8 vop,.int .u8 vty,.int .u64 vbits,.string (str ven),.slice vea vek.length vec,.slice vba vbody.length vbc,.slice vla vels.length vlc]]) sy_fine Tryz.func144 rfl (fun γ=>norms_LR _) rfl (fun γ0 hγ0=>?_)
   refine rs [11] 60 0 ?_
   rcases Bool.eq_false_or_eq_true (intEq ukind vkind) with h1 | h1
   rotate_left
   ·
    refine gS 9 (x := .bool (intEq ukind vkind)) (.bool false) (by rw [h1]) ?_
    refine gS 10 (x := .bool (intEq ukind vkind)) (.bool false) (by rw [h1]) ?_
    refine rs [] 60 4 ?_
    refine gR (.bool false) (fun W hk=>⟨?_,hk.below⟩)
    rw [sameB_f]
    intro h
    injection h with e1 e2 e3 e4 e5
    rw [intEq_eq] at h1;simp_all
   refine gS 9 (x := .bool (intEq ukind vkind)) (.bool true) (by rw [h1]) ?_
   refine gS 10 (x := .bool (intEq ukind vkind)) (.bool true) (by rw [h1]) ?_
   refine rs [18] 60 0 ?_
   rcases Bool.eq_false_or_eq_true (bEqL usn vsn) with h2 | h2
   rotate_left
   ·
    refine gS 15 (x := .bool (bEqL usn vsn)) (.bool false) (by rw [h2]) ?_
    refine gS 16 (x := .bool (bEqL usn vsn)) (.bool false) (by rw [h2]) ?_
    refine gS 17 (x := .bool (bEqL usn vsn)) (.bool false) (by rw [h2]) ?_
    refine rs [] 60 4 ?_
    refine gR (.bool false) (fun W hk=>⟨?_,hk.below⟩)
    rw [sameB_f]
    intro h
    injection h with e1 e2 e3 e4 e5
    rw [bEqL_eq] at h2;simp_all
   refine gS 15 (x := .bool (bEqL usn vsn)) (.bool true) (by rw [h2]) ?_
   refine gS 16 (x := .bool (bEqL usn vsn)) (.bool true) (by rw [h2]) ?_
   refine gS 17 (x := .bool (bEqL usn vsn)) (.bool true) (by rw [h2]) ?_
   refine rk ?_
   refine gX [.agg #[.int .u8 uop,.int .u8 uty,.int .u64 ubits,.string (str uen),.slice uea uek.length uec],.agg #[.int .u8 vop,.int .u8 vty,.int .u64 vbits,.string (str ven),.slice vea vek.length vec]] (.bool (sameB (Ex.mk uop uty ubits uen uek) (Ex.mk vop vty vbits ven vek))) (fun W hk=>tsameExpr_any _ (Ex.mk uop uty ubits uen uek) (Ex.mk vop vty vbits ven vek) [.int .u8 uop,.int .u8 uty,.int .u64 ubits,.string (str uen),.slice uea uek.length uec] [.int .u8 vop,.int .u8 vty,.int .u64 vbits,.string (str ven),.slice vea vek.length vec] W (Nat.le_refl _) (by omega) (uhe.keep hk (fun k h=>Nat.lt_of_lt_of_le h hk.size)) (vhe.keep hk (fun k h=>Nat.lt_of_lt_of_le h hk.size))) ?_
   refine rs [25] 60 0 ?_
   rcases Bool.eq_false_or_eq_true (sameB (Ex.mk uop uty ubits uen uek) (Ex.mk vop vty vbits ven vek)) with h3 | h3
   rotate_left
   ·
    refine gS 22 (x := .bool (sameB (Ex.mk uop uty ubits uen uek) (Ex.mk vop vty vbits ven vek))) (.bool false) (by rw [h3]) ?_
    refine gS 23 (x := .bool (sameB (Ex.mk uop uty ubits uen uek) (Ex.mk vop vty vbits ven vek))) (.bool false) (by rw [h3]) ?_
    refine gS 24 (x := .bool (sameB (Ex.mk uop uty ubits uen uek) (Ex.mk vop vty vbits ven vek))) (.bool false) (by rw [h3]) ?_
    refine rs [] 60 4 ?_
    refine gR (.bool false) (fun W hk=>⟨?_,hk.below⟩)
    rw [sameB_f]
    intro h
    injection h with e1 e2 e3 e4 e5
    rw [sameB_t.2 e3] at h3;cases h3
   refine gS 22 (x := .bool (sameB (Ex.mk uop uty ubits uen uek) (Ex.mk vop vty vbits ven vek))) (.bool true) (by rw [h3]) ?_
   refine gS 23 (x := .bool (sameB (Ex.mk uop uty ubits uen uek) (Ex.mk vop vty vbits ven vek))) (.bool true) (by rw [h3]) ?_
   refine gS 24 (x := .bool (sameB (Ex.mk uop uty ubits uen uek) (Ex.mk vop vty vbits ven vek))) (.bool true) (by rw [h3]) ?_
   refine rk ?_
   refine gX [.slice uba ubody.length ubc,.slice vba vbody.length vbc,.func (.func 144) #[] #[]] (.bool (sameB ubody vbody)) (fun W hk=>eqFuncSt N ihN ubody vbody _ _ _ _ _ _ _ _ W rfl rfl (by omega) (by omega) ((uhbs.keep hk).mono (fun k h=>Nat.lt_of_lt_of_le h hk.size)) ((vhbs.keep hk).mono (fun k h=>Nat.lt_of_lt_of_le h hk.size)) (StsAt_ls.1 (uhbt.keep hk (fun k h=>Nat.lt_of_lt_of_le h hk.size))) (StsAt_ls.1 (vhbt.keep hk (fun k h=>Nat.lt_of_lt_of_le h hk.size)))) ?_
   refine rs [32] 60 0 ?_
   rcases Bool.eq_false_or_eq_true (sameB ubody vbody) with h4 | h4
   rotate_left
   ·
    refine gS 29 (x := .bool (sameB ubody vbody)) (.bool false) (by rw [h4]) ?_
    refine gS 30 (x := .bool (sameB ubody vbody)) (.bool false) (by rw [h4]) ?_
    refine gS 31 (x := .bool (sameB ubody vbody)) (.bool false) (by rw [h4]) ?_
    refine rs [] 60 4 ?_
    refine gR (.bool false) (fun W hk=>⟨?_,hk.below⟩)
    rw [sameB_f]
    intro h
    injection h with e1 e2 e3 e4 e5
    rw [sameB_t.2 e4] at h4;cases h4
   refine gS 29 (x := .bool (sameB ubody vbody)) (.bool true) (by rw [h4]) ?_
   refine gS 30 (x := .bool (sameB ubody vbody)) (.bool true) (by rw [h4]) ?_
   refine gS 31 (x := .bool (sameB ubody vbody)) (.bool true) (by rw [h4]) ?_
   refine rk ?_
   refine gX [.slice ula uels.length ulc,.slice vla vels.length vlc,.func (.func 144) #[] #[]] (.bool (sameB uels vels)) (fun W hk=>eqFuncSt N ihN uels vels _ _ _ _ _ _ _ _ W rfl rfl (by omega) (by omega) ((uhls.keep hk).mono (fun k h=>Nat.lt_of_lt_of_le h hk.size)) ((vhls.keep hk).mono (fun k h=>Nat.lt_of_lt_of_le h hk.size)) (StsAt_ls.1 (uhlt.keep hk (fun k h=>Nat.lt_of_lt_of_le h hk.size))) (StsAt_ls.1 (vhlt.keep hk (fun k h=>Nat.lt_of_lt_of_le h hk.size)))) ?_
   refine rk ?_
   refine gR (.bool (sameB uels vels)) (fun W hk=>⟨?_,hk.below⟩)
   have g1:ukind=vkind:=by rw [intEq_eq] at h1;simpa using h1
   have g2:usn=vsn:=by rw [bEqL_eq] at h2;simpa using h2
   have g3:=sameB_t.1 h3
   have g4:=sameB_t.1 h4
   rcases Bool.eq_false_or_eq_true (sameB uels vels) with hq | hq
   · rw [hq,sameB_t.2]
     rw [g1,g2,g3,g4,sameB_t.1 hq]
   · rw [hq,sameB_f]
     intro h
     injection h with e1 e2 e3 e4 e5
     rw [sameB_t.2 e5] at hq
     cases hq
open Go.Sy in
set_option maxRecDepth 100000 in
theorem tsameThread_any (x y:Th) (cs1 cs2:List Value) (w:World) (hbd:thw x≤1000000000000) (hc1:ThAt (·<w.heap.size) w x cs1) (hc2:ThAt (·<w.heap.size) w y cs2):
  Calls Tryz.prog 78 #[.agg cs1.toArray,.agg cs2.toArray] w fun r w'=>r = .returned (.bool (sameB x y))∧Below w.heap.size w w':=by
 unfold thw at hbd
 obtain ⟨ua,ucap,uxs,ub,ucap2,uys,rfl,uh1,uh2,uh3,uh4⟩:=hc1
 obtain ⟨va,vcap,vxs,vb,vcap2,vys,rfl,vh1,vh2,vh3,vh4⟩:=hc2
 refine Sy.enter (vs:=[.agg #[.string (str x.name),.slice ua x.locals.length ucap,.slice ub x.body.length ucap2],.agg #[.string (str y.name),.slice va y.locals.length vcap,.slice vb y.body.length vcap2]]) sy_fine Tryz.func78 rfl (fun γ=>norms_LR _) rfl (fun γ0 hγ0=>?_)
 refine rs [11] 60 0 ?_
 rcases Bool.eq_false_or_eq_true (bEqL x.name y.name) with h1 | h1
 rotate_left
 ·
  refine gS 9 (x := .bool (bEqL x.name y.name)) (.bool false) (by rw [h1]) ?_
  refine gS 10 (x := .bool (bEqL x.name y.name)) (.bool false) (by rw [h1]) ?_
  refine rs [] 60 4 ?_
  refine gR (.bool false) (fun W hk=>⟨?_,hk.below⟩)
  rw [sameB_f]
  intro h
  rw [bEqL_eq] at h1;simp_all
 refine gS 9 (x := .bool (bEqL x.name y.name)) (.bool true) (by rw [h1]) ?_
 refine gS 10 (x := .bool (bEqL x.name y.name)) (.bool true) (by rw [h1]) ?_
 refine rk ?_
 refine gX [.slice ua x.locals.length ucap,.slice va y.locals.length vcap] (.bool (sameB x.locals y.locals)) (fun W hk=>eqVars_any x.locals y.locals _ _ _ _ _ _ _ _ W rfl rfl (by omega) ((uh1.keep hk).mono (fun k h=>Nat.lt_of_lt_of_le h hk.size)) ((vh1.keep hk).mono (fun k h=>Nat.lt_of_lt_of_le h hk.size)) uh2 vh2) ?_
 refine rs [18] 60 0 ?_
 rcases Bool.eq_false_or_eq_true (sameB x.locals y.locals) with h2 | h2
 rotate_left
 ·
  refine gS 15 (x := .bool (sameB x.locals y.locals)) (.bool false) (by rw [h2]) ?_
  refine gS 16 (x := .bool (sameB x.locals y.locals)) (.bool false) (by rw [h2]) ?_
  refine gS 17 (x := .bool (sameB x.locals y.locals)) (.bool false) (by rw [h2]) ?_
  refine rs [] 60 4 ?_
  refine gR (.bool false) (fun W hk=>⟨?_,hk.below⟩)
  rw [sameB_f]
  intro h
  rw [sameB_t.2 (by rw [h])] at h2;cases h2
 refine gS 15 (x := .bool (sameB x.locals y.locals)) (.bool true) (by rw [h2]) ?_
 refine gS 16 (x := .bool (sameB x.locals y.locals)) (.bool true) (by rw [h2]) ?_
 refine gS 17 (x := .bool (sameB x.locals y.locals)) (.bool true) (by rw [h2]) ?_
 refine rk ?_
 refine gX [.slice ub x.body.length ucap2,.slice vb y.body.length vcap2,.func (.func 144) #[] #[]] (.bool (sameB x.body y.body)) (fun W hk=>eqFuncSt _ (tsameStmt_any _) x.body y.body _ _ _ _ _ _ _ _ W rfl rfl (Nat.le_refl _) (by omega) ((uh3.keep hk).mono (fun k h=>Nat.lt_of_lt_of_le h hk.size)) ((vh3.keep hk).mono (fun k h=>Nat.lt_of_lt_of_le h hk.size)) (StsAt_ls.1 (uh4.keep hk (fun k h=>Nat.lt_of_lt_of_le h hk.size))) (StsAt_ls.1 (vh4.keep hk (fun k h=>Nat.lt_of_lt_of_le h hk.size)))) ?_
 refine rk ?_
 refine gR (.bool (sameB x.body y.body)) (fun W hk=>⟨?_,hk.below⟩)
 have g1:x.name=y.name:=by rw [bEqL_eq] at h1;simpa using h1
 have g2:=sameB_t.1 h2
 rcases Bool.eq_false_or_eq_true (sameB x.body y.body) with hq | hq
 · rw [hq,sameB_t.2]
   have:=sameB_t.1 hq
   cases x;cases y;simp_all
 · rw [hq,sameB_f]
   intro h
   rw [sameB_t.2 (by rw [h])] at hq
   cases hq
open Go.Sy in
set_option maxRecDepth 100000 in
theorem eqFuncTh (L M:List Th) (a1 a2:Option Addr) (n1 n2 cap1 cap2:Nat) (xs1 xs2:List Value) (w:World) (hn1:n1=L.length) (hn2:n2=M.length) (hbd:thws L≤1000000000000)
  (hsl1:SlAt (·<w.heap.size) w a1 n1 3 xs1) (hsl2:SlAt (·<w.heap.size) w a2 n2 3 xs2) (hks1:LsAt (ThAt (·<w.heap.size) w) L xs1) (hks2:LsAt (ThAt (·<w.heap.size) w) M xs2):
  Calls Tryz.prog 77 #[.slice a1 n1 cap1,.slice a2 n2 cap2,.func (.func 78) #[] #[]] w fun r w'=>r = .returned (.bool (sameB L M))∧Below w.heap.size w w':=by
 refine Sy.enter (vs:=[.slice a1 n1 cap1,.slice a2 n2 cap2,.func (.func 78) #[] #[]]) sy_fine Tryz.func77 rfl (fun γ=>norms_LR _) rfl (fun γ0 hγ0=>?_)
 refine rk ?_
 refine good_cond (b:=!(intEq (n1:Int) (n2:Int))) (by kernel_rfl) (fun hnn=>?_) (fun hnn=>?_)
 ·
  refine rs [] 60 2 ?_
  refine gR (.bool false) (fun W hk=>⟨?_,hk.below⟩)
  rw [sameB_f]
  intro h
  rw [intEq_eq] at hnn;simp_all
 have hnn1:n1=n2:=by rw [intEq_eq] at hnn;have:(n1:Int)=(n2:Int):=(by simpa using hnn);omega
 refine rk ?_
 refine good_toLp ?_
 refine good_loopI (fun i:List Th×List Th×List Th=>i.2.1.length) (fun i=>L=i.1++i.2.1∧M=i.1++i.2.2) (fun i=>⟨mkT [(0,.v (.slice a1 n1 cap1)),(1,.v (.slice a2 n2 cap2)),(2,norm (.func (.func 78) #[] #[])),(15,.v (.slice a1 n1 cap1)),(16,.v (.int .i64 (n1:Int))),(17,.v (.int .i64 (i.1.length:Int)))],mkH [],gz,[]⟩)
  ([],L,M) ⟨rfl,rfl⟩ (by kernel_rfl)
  (fun h=>good_sub _ [(0,.v (.slice a1 n1 cap1)),(1,.v (.slice a2 n2 cap2)),(2,norm (.func (.func 78) #[] #[])),(15,.v (.slice a1 n1 cap1)),(16,.v (.int .i64 (n1:Int))),(17,.v (.int .i64 (([]:List Th).length:Int)))] [] gz rfl (by kernel_rfl) (by kernel_rfl) (by kernel_rfl) (by kernel_rfl) (by kernel_rfl) (fun b hb=>hγ0 b hb) (by kernel_rfl) h) ?_
 rintro ⟨l1,l2,m2⟩ ⟨hI1,hI2⟩ ih
 simp only at hI1 hI2
 have hq1:n1=l1.length+l2.length:=by rw [hn1,hI1,List.length_append]
 have hq2:n2=l1.length+m2.length:=by rw [hn2,hI2,List.length_append]
 refine rk ?_
 cases l2 with
 | nil=>
   obtain rfl:m2=[]:=List.eq_nil_of_length_eq_zero (by simp only [List.length_nil] at hq1;omega)
   refine gK false (b:=intLt (l1.length:Int) (n1:Int)) (lt_f (by rw [hq1];simp)) ?_
   refine rk ?_
   refine gR (.bool true) (fun W hk=>⟨?_,hk.below⟩)
   rw [sameB_t.2 (by rw [hI1,hI2])]
 | cons x l3=>
   obtain ⟨y,m3,rfl⟩:∃ y m3,m2=y::m3:=by
    cases m2 with
    | nil=>simp only [List.length_nil,List.length_cons] at hq1 hq2;omega
    | cons a b=>exact ⟨a,b,rfl⟩
   have hin1:l1.length<n1:=by rw [hq1,List.length_cons];omega
   have hin2:l1.length<n2:=by omega
   have hks1':=hks1
   have hks2':=hks2
   rw [hI1] at hks1'
   rw [hI2] at hks2'
   obtain ⟨c1,hc1,hcell1⟩:=hks1'.at_ (fun _ _ h=>h.len)
   obtain ⟨c2,hc2,hcell2⟩:=hks2'.at_ (fun _ _ h=>h.len)
   refine gK true (b:=intLt (l1.length:Int) (n1:Int)) (lt_t (by omega)) ?_
   refine rk ?_
   have hwl:thws L=thws l1+(thw x+thws l3):=by rw [hI1,thws_app];simp [thws]
   have hnl:=thws_len L
   have hc1k:=fun W (hk:Keep (·<w.heap.size) w W)=>hc1.keep hk (fun k h=>Nat.lt_of_lt_of_le h hk.size)
   have hc2k:=fun W (hk:Keep (·<w.heap.size) w W)=>hc2.keep hk (fun k h=>Nat.lt_of_lt_of_le h hk.size)
   obtain ⟨ua,ucap,uxs,ub,ucap2,uys,rfl,uh1,uh2,uh3,uh4⟩:=hc1
   obtain ⟨va,vcap,vxs,vb,vcap2,vys,rfl,vh1,vh2,vh3,vh4⟩:=hc2
   refine gV (.pointer (some ⟨gB a1,oB a1+l1.length*3,none⟩)) (S:=Instr.indexAt 24 (.slice a1 n1 cap1) (.int .i64 (l1.length:Int))) (fun W _=>idx_sl (e:=58) hsl1 (by kernel_rfl) (by kernel_rfl) hin1 W) ?_
   refine rk ?_
   refine gV (.agg #[.string (str x.name),.slice ua x.locals.length ucap,.slice ub x.body.length ucap2]) (S:=Instr.loadAt 58 (.pointer (some ⟨gB a1,oB a1+l1.length*3+0,none⟩))) (fun W hk=>load_slA (P:=Tryz.prog) (ty:=58) (m:=3) (cs:=[.string (str x.name),.slice ua x.locals.length ucap,.slice ub x.body.length ucap2]) hsl1 (by kernel_rfl) (by kernel_rfl) l1.length 0 rfl hcell1 hk) ?_
   refine rk ?_
   refine gV (.pointer (some ⟨gB a2,oB a2+l1.length*3,none⟩)) (S:=Instr.indexAt 24 (.slice a2 n2 cap2) (.int .i64 (l1.length:Int))) (fun W _=>idx_sl (e:=58) hsl2 (by kernel_rfl) (by kernel_rfl) hin2 W) ?_
   refine rk ?_
   refine gV (.agg #[.string (str y.name),.slice va y.locals.length vcap,.slice vb y.body.length vcap2]) (S:=Instr.loadAt 58 (.pointer (some ⟨gB a2,oB a2+l1.length*3+0,none⟩))) (fun W hk=>load_slA (P:=Tryz.prog) (ty:=58) (m:=3) (cs:=[.string (str y.name),.slice va y.locals.length vcap,.slice vb y.body.length vcap2]) hsl2 (by kernel_rfl) (by kernel_rfl) l1.length 0 rfl hcell2 hk) ?_
   refine rk ?_
   refine gX [.agg #[.string (str x.name),.slice ua x.locals.length ucap,.slice ub x.body.length ucap2],.agg #[.string (str y.name),.slice va y.locals.length vcap,.slice vb y.body.length vcap2]] (.bool (sameB x y)) (fun W hk=>tsameThread_any x y [.string (str x.name),.slice ua x.locals.length ucap,.slice ub x.body.length ucap2] [.string (str y.name),.slice va y.locals.length vcap,.slice vb y.body.length vcap2] W (by omega) (hc1k W hk) (hc2k W hk)) ?_
   refine rk ?_
   refine good_cond (b:=!(sameB x y)) (by kernel_rfl) (fun hss=>?_) (fun hss=>?_)
   ·
    have hne:x≠y:=fun h=>by rw [sameB_t.2 h] at hss;cases hss
    refine rs [] 60 2 ?_
    refine gR (.bool false) (fun W hk=>⟨?_,hk.below⟩)
    rw [sameB_f]
    intro h
    rw [hI1,hI2] at h
    have h2:=(List.cons.inj (List.append_cancel_left h)).1
    exact hne h2
   ·
    have hxy:x=y:=sameB_t.1 (by simpa using hss)
    refine rs [] 60 2 ?_
    refine gS 17 (x := .int .i64 (wrapF .i64 (((l1.length:Nat):Int)+1))) (.int .i64 ((((l1++[x]).length:Nat):Int))) (by rw [wr64 (n:=((l1.length:Nat):Int)+1) (by omega) (by omega)];congr 1;simp) ?_
    exact gU _ [(0,.v (.slice a1 n1 cap1)),(1,.v (.slice a2 n2 cap2)),(2,norm (.func (.func 78) #[] #[])),(15,.v (.slice a1 n1 cap1)),(16,.v (.int .i64 (n1:Int))),(17,.v (.int .i64 ((l1++[x]).length:Int)))] [] gz (fun b hb=>hγ0 b hb) (ih (l1++[x],l3,m3) ⟨(by show L=(l1++[_])++l3;rw [hI1];simp),(by show M=(l1++[_])++m3;rw [hI2,← hxy];simp)⟩ (by show l3.length<(_::l3).length;simp))
open Go.Sy in
set_option maxRecDepth 100000 in
theorem tsame_any (p q:Pg) (cs1 cs2:List Value) (w:World) (hbd0:pwt p≤1000000000000) (hp:PgAt (·<w.heap.size) w p cs1) (hq:PgAt (·<w.heap.size) w q cs2):
  Calls Tryz.prog 28 #[.agg cs1.toArray,.agg cs2.toArray] w fun r w'=>r = .returned (.bool (sameB p q))∧Below w.heap.size w w':=by
 obtain ⟨pa,pcap,pxs0,pb,pcap2,pys0,pd,pcap3,pzs0,rfl,pxs,pxt,pys,pyt,pzs,pzt⟩:=hp
 obtain ⟨qa,qcap,qxs0,qb,qcap2,qys0,qd,qcap3,qzs0,rfl,qxs,qxt,qys,qyt,qzs,qzt⟩:=hq
 have hbd:p.shared.length+p.mutexes.length+thws p.threads≤1000000000000:=hbd0
 refine Sy.enter (vs:=[.agg #[.slice pa p.shared.length pcap,.slice pb p.mutexes.length pcap2,.slice pd p.threads.length pcap3],.agg #[.slice qa q.shared.length qcap,.slice qb q.mutexes.length qcap2,.slice qd q.threads.length qcap3]]) sy_fine Tryz.func28 rfl (fun γ=>norms_LR _) rfl (fun γ0 hγ0=>?_)
 refine rk ?_
 refine gX [.slice pa p.shared.length pcap,.slice qa q.shared.length qcap] (.bool (sameB p.shared q.shared)) (fun W hk=>eqVars_any p.shared q.shared _ _ _ _ _ _ _ _ W rfl rfl (by omega) ((pxs.keep hk).mono (fun k h=>Nat.lt_of_lt_of_le h hk.size)) ((qxs.keep hk).mono (fun k h=>Nat.lt_of_lt_of_le h hk.size)) pxt qxt) ?_
 refine rs [11] 60 0 ?_
 rcases Bool.eq_false_or_eq_true (sameB p.shared q.shared) with h1 | h1
 rotate_left
 ·
  refine gS 9 (x := .bool (sameB p.shared q.shared)) (.bool false) (by rw [h1]) ?_
  refine gS 10 (x := .bool (sameB p.shared q.shared)) (.bool false) (by rw [h1]) ?_
  refine rs [] 60 4 ?_
  refine gR (.bool false) (fun W hk=>⟨?_,hk.below⟩)
  rw [sameB_f]
  intro h
  rw [sameB_t.2 (by rw [h])] at h1;cases h1
 refine gS 9 (x := .bool (sameB p.shared q.shared)) (.bool true) (by rw [h1]) ?_
 refine gS 10 (x := .bool (sameB p.shared q.shared)) (.bool true) (by rw [h1]) ?_
 refine rk ?_
 refine gX [.slice pb p.mutexes.length pcap2,.slice qb q.mutexes.length qcap2] (.bool (sameB p.mutexes q.mutexes)) (fun W hk=>eqTexts_any p.mutexes q.mutexes _ _ _ _ _ _ _ _ W rfl rfl (by omega) ((pys.keep hk).mono (fun k h=>Nat.lt_of_lt_of_le h hk.size)) ((qys.keep hk).mono (fun k h=>Nat.lt_of_lt_of_le h hk.size)) pyt qyt) ?_
 refine rs [18] 60 0 ?_
 rcases Bool.eq_false_or_eq_true (sameB p.mutexes q.mutexes) with h2 | h2
 rotate_left
 ·
  refine gS 15 (x := .bool (sameB p.mutexes q.mutexes)) (.bool false) (by rw [h2]) ?_
  refine gS 16 (x := .bool (sameB p.mutexes q.mutexes)) (.bool false) (by rw [h2]) ?_
  refine gS 17 (x := .bool (sameB p.mutexes q.mutexes)) (.bool false) (by rw [h2]) ?_
  refine rs [] 60 4 ?_
  refine gR (.bool false) (fun W hk=>⟨?_,hk.below⟩)
  rw [sameB_f]
  intro h
  rw [sameB_t.2 (by rw [h])] at h2;cases h2
 refine gS 15 (x := .bool (sameB p.mutexes q.mutexes)) (.bool true) (by rw [h2]) ?_
 refine gS 16 (x := .bool (sameB p.mutexes q.mutexes)) (.bool true) (by rw [h2]) ?_
 refine gS 17 (x := .bool (sameB p.mutexes q.mutexes)) (.bool true) (by rw [h2]) ?_
 refine rk ?_
 refine gX [.slice pd p.threads.length pcap3,.slice qd q.threads.length qcap3,.func (.func 78) #[] #[]] (.bool (sameB p.threads q.threads)) (fun W hk=>eqFuncTh p.threads q.threads _ _ _ _ _ _ _ _ W rfl rfl (by omega) ((pzs.keep hk).mono (fun k h=>Nat.lt_of_lt_of_le h hk.size)) ((qzs.keep hk).mono (fun k h=>Nat.lt_of_lt_of_le h hk.size)) (pzt.imp fun _ _ h=>h.keep hk (fun k h=>Nat.lt_of_lt_of_le h hk.size)) (qzt.imp fun _ _ h=>h.keep hk (fun k h=>Nat.lt_of_lt_of_le h hk.size))) ?_
 refine rk ?_
 refine gR (.bool (sameB p.threads q.threads)) (fun W hk=>⟨?_,hk.below⟩)
 have g1:=sameB_t.1 h1
 have g2:=sameB_t.1 h2
 rcases Bool.eq_false_or_eq_true (sameB p.threads q.threads) with hq | hq
 · rw [hq,sameB_t.2]
   have:=sameB_t.1 hq
   cases p;cases q;simp_all
 · rw [hq,sameB_f]
   intro h
   rw [sameB_t.2 (by rw [h])] at hq
   cases hq
end Go.Proofs.YtiacalnkmnckjaaGreatDoor
end
