/- Texts of this proof, one behind the other. Conditions: those in each theorem. -/
import Derived.Test.YtinjiigdijbjeaaGreatDoorSvQ2
import Derived.Test.YtinjiigdijbjeaaGreatDoorSvQ1
set_option linter.unusedVariables false
set_option linter.unusedSimpArgs false
namespace Go.Proofs.YtinjiigdijbjeaaGreatDoor
open Go.RowKit Go.As
section
set_option maxRecDepth 100000 in
set_option maxHeartbeats 3200000 in
theorem qprint_any (b:Nat) (hb:b<18446744073709551616) (w:World):
  Calls Tryz.prog 135 #[.int .u64 (b:Int)] w fun e w'=>∃ s z,e = .returned (.tuple #[.string (str s),.int .i64 z])∧PSpec (toN b) s z∧Below w.heap.size w w':=by
 obtain ⟨c,hc⟩:∃ c,c=toN b:=⟨_,rfl⟩
 have hcl:c<18446744073709551616:=by
  rw [hc];unfold toN;split <;> omega
 have g1:=fun W=>qcanon' (a:=b) (r:=c) W hc.symm
 have g2:=fun W=>qof' c W
 have hcc:toN c=c:=by rw [hc,toN_toN]
 rw [← hc]
 clear hc hb
 cases hnan:nanW c with
 | true=>
   have HNL:=Lib.hid (show ∀ k n,¬ LitIs c k n from fun k n h=>by have:=h.bound.2.1;rw [hnan] at this;cases this)
   rw [toN_nanW hnan] at hcc
   have hq:((c:Int)==9221120237041090560)=true:=beq_iff_eq.2 (by omega)
   clear hnan hcl hcc
   go_enter Tryz.func135,Tryz.ntmps135
   go_wp2_with (first
    | (go_at_call 86;(with_reducible refine (g1 _).mono ?_);rintro e w' ⟨rfl,rfl⟩)
    | (go_at_call 140;(with_reducible refine (g2 _).mono ?_);rintro e w' ⟨rfl,rfl⟩))
   go_ret2
   exact ⟨[],2,rfl,.inr ⟨rfl,rfl,HNL.out⟩,Below.refl _ _⟩
 | false=>
   have hne:c≠9221120237041090560:=fun e=>by rw [e,nan_lit] at hnan;cases hnan
   have hq:((c:Int)==9221120237041090560)=false:=beq_false_of_ne (by omega)
   clear hcc hne
   by_cases h63:c<9223372036854775808
   · have hsh:(c:Int) / 9223372036854775808=0:=by omega
     have horder:=fun (h:fd.order c w15≠some .lt)=>(fun k n hl=>h (LitIs.bound hl).1:∀ k n,¬ LitIs c k n)
     obtain ⟨B,hB⟩:=big_is
     have hov:=order_val hB (x:=c) (y:=w15) hnan (by decide)
     rcases hcmp:compare (val B (fd.read c)) (val B (fd.read w15)) with _ | _ | _
     · rw [hcmp] at hov
       have ho:FloatKind.f64.format.order c 4831355200913801216=some .lt:=hov
       have hnum:∃ m i,fd.read c = .number false m i:=by
        cases hr:fd.read c with
        | nan s p=>unfold nanW at hnan;rw [hr] at hnan;cases hnan
        | infinity s=>
          cases s with
          | true=>
            have h1:=read_inf hcl hr
            rw [fd_inf] at h1
            unfold Ieee.Format.word at h1
            rw [if_pos rfl,fd_sw] at h1
            omega
          | false=>
            have h1:fd.order c w15=some .gt:=by
             unfold Ieee.Format.order
             rw [hr,w15_read]
             simp only [Ieee.Datum.order,Bool.false_eq_true,if_false]
            exact absurd (hov.symm.trans h1) (by decide)
        | number s m i=>
          cases s with
          | false=>exact ⟨m,i,rfl⟩
          | true=>
            have:=(read_canon hcl hr).1
            unfold Ieee.Format.word at this
            rw [if_pos rfl,fd_sw] at this
            omega
       obtain ⟨m,i,hrd⟩:=hnum
       have HLT:=Lib.hid (And.intro hrd hov)
       clear hov hcmp hrd hnan h63 hcl horder hB
       go_enter Tryz.func135,Tryz.ntmps135
       go_wp2_with (first
        | (go_at_call 86;(with_reducible refine (g1 _).mono ?_);rintro e w' ⟨rfl,rfl⟩)
        | (go_at_call 140;(with_reducible refine (g2 _).mono ?_);rintro e w' ⟨rfl,rfl⟩))
       go_loopw [5,6] (fun pv kv wr=>∃ k:Nat,1≤k∧k≤7∧pv = .int .i64 ((10 ^ (k - 1):Nat):Int)∧kv = .int .i64 k∧Below w.heap.size w wr∧NoLit c k) (fun _ kv _=>7 - (intOf kv).toNat)
       case atStart=>exact ⟨1,by omega,by omega,rfl,rfl,Below.refl _ _,noLit_one c⟩
       case round=>
        obtain ⟨k,hk1,hk7,rfl,rfl,hbw,hnl⟩:=hrel
        have HB:=Lib.hid hbw
        have HN:=Lib.hid hnl
        clear hbw hnl
        by_cases hk6:k≤6
        · have ik6:(k:Int)≤6:=by omega
          have hwk:IntKind.i64.wrap ((k:Int)+1)=(k:Int)+1:=by rw [IntKind.wrap_i64];omega
          obtain ⟨P0,hP0⟩:∃ P0,P0=10 ^ (k - 1):=⟨_,rfl⟩
          obtain ⟨P,hP⟩:∃ P,P=10 ^ k:=⟨_,rfl⟩
          have hPP:P=10*P0:=by rw [hP,hP0,← Nat.pow_succ'];congr 1;omega
          have hPle:P≤1000000:=by
           rw [hP]
           have:(10:Nat) ^ k≤10 ^ 6:=Nat.pow_le_pow_right (by omega) hk6
           exact this
          have hPge:10≤P:=by rw [hP];exact pow10_ge hk1
          have hw10:IntKind.i64.wrap (10*(P0:Int))=(P:Int):=by rw [IntKind.wrap_i64];omega
          have hpf:floatOfInt .f64 (P:Int)=powT k:=by rw [hP];exact powT_int hk6
          have HP:=Lib.hid hP
          rw [← hP0]
          obtain ⟨r,c',e',hmul,hread⟩:=prod_gen HLT.out.1 HLT.out.2 hk1 hk6
          have hrn:nanW r=false:=by unfold nanW;rw [hread];rfl
          have hrun:=fun w t=>run_float_arith (P:=Tryz.prog) w .mul t .f64 _ _ _ hmul
          have hfl:=floor_or hread
          have hneg:(FloatKind.f64.decode r).neg=false:=by
           show (fd.read r).neg=false
           rw [hread];rfl
          obtain ⟨o,ho2⟩:∃ o,fd.order r w2e=some o:=⟨_,order_val big_is.choose_spec hrn (by decide)⟩
          have hmin:=fun ts t w=>min_run (P:=Tryz.prog) ts t r o ho2 hneg w
          have hM:∃ M:Nat,M≤2000000000000000∧nanW (if o = .lt then r else w2e)=false∧IsI (flW (if o = .lt then r else w2e)) M∧∀ n,LitIs c k n→n=M∨n=M+1:=by
           by_cases hol:o = .lt
           · rw [if_pos hol]
             rw [hol] at ho2
             have hV:=(whV_lt hread).1 ho2
             rcases hfl with ⟨_,h2⟩ | ⟨h2,_⟩
             · refine ⟨whV c' e',by omega,hrn,h2,fun n hl=>?_⟩
               obtain ⟨r',V',e1,_,e3,e4⟩:=hl.floor
               rw [hmul] at e1
               injection e1 with e1
               subst e1
               have:=isI_inj h2 e3
               omega
             · omega
           · rw [if_neg hol]
             have hfw:IsI (flW w2e) ((2000000000000000:Nat):Int):=by
              rcases floor_or w2e_read with ⟨_,h2⟩ | ⟨h2,_⟩
              · have:whV 8000000000000000 (-2)=2000000000000000:=by decide
                rw [this] at h2
                exact h2
              · have:whV 8000000000000000 (-2)=2000000000000000:=by decide
                omega
             refine ⟨2000000000000000,by omega,by decide,hfw,fun n hl=>?_⟩
             exfalso
             obtain ⟨r',V',e1,_,e3,e4⟩:=hl.floor
             rw [hmul] at e1
             injection e1 with e1
             subst e1
             have hn15:=hl.2.2.1
             have:whV c' e'<2000000000000000:=by
              rcases hfl with ⟨_,h2⟩ | ⟨_,h2,_⟩
              · have:=isI_inj h2 e3
                omega
              · exact absurd h2 (gt_not (by omega) e3)
             have:=(whV_lt hread).2 this
             rw [ho2] at this
             injection this with this
             exact hol this
          obtain ⟨M,hM2,hmn,hMI,hML⟩:=hM
          obtain ⟨Z,hZ⟩:∃ Z,Z=(if o = .lt then r else w2e):=⟨_,rfl⟩
          rw [← hZ] at hmn hMI
          have hmin':∀ ts t w,(Builtin.min_ ts t #[.float .f64 r,.float .f64 4835858800541171712]).run Tryz.prog w = .ok (.float .f64 Z) w:=fun ts t w=>by rw [hZ];exact hmin ts t w
          obtain ⟨N,hN⟩:∃ N,N=flW Z:=⟨_,rfl⟩
          rw [← hN] at hMI
          have HF:=Lib.hid (show ∀ W,Calls Tryz.prog 175 #[.float .f64 Z] W fun e w'=>e = .returned (.float .f64 N)∧W=w' from fun W=>by rw [hN];exact floor_any Z hmn W)
          have hcv:∀ w,(convert 185 3 (.float .f64 N)).run Tryz.prog w = .ok (.int .i64 (M:Int)) w:=fun w=>run_convert_float_int (P:=Tryz.prog) w 185 3 .f64 .i64 N M (by kernel_rfl) Tryz.underlying3 (by
           unfold floatToIntVal FloatKind.decode
           rw [show (FloatKind.f64.format.read N).toInt .zero=some (M:Int) from isI_toInt hMI]
           have e1:IntKind.i64.min = -9223372036854775808:=by decide
           have e2:IntKind.i64.max=9223372036854775807:=by decide
           simp only [e1,e2]
           rw [if_pos ⟨by omega,by omega⟩])
          have HML:=Lib.hid hML
          have hv1:IntKind.i64.wrap ((M:Int) - 2)=(M:Int) - 2:=by rw [IntKind.wrap_i64];omega
          have hv2:IntKind.i64.wrap ((M:Int)+2)=(M:Int)+2:=by rw [IntKind.wrap_i64];omega
          have hpow1:((10 ^ (k+1 - 1):Nat):Int)=(P:Int):=by rw [Nat.add_sub_cancel,hP]
          have HPW:=Lib.hid hpow1
          clear hP hP0 hPP hmul hread hrn hfl hneg ho2 hmin hmn hZ hN hMI hML hpow1
          go_wp2_with (go_at_call 175;(with_reducible refine (HF.out _).mono ?_);rintro e w' ⟨rfl,rfl⟩)
          go_loopw [8] (fun nv wq=>∃ n:Nat,M - 2≤n∧n≤M+3∧nv = .int .i64 n∧Below w.heap.size w wq∧∀ n':Nat,M - 2≤n'→n'<n→¬ LitIs c k n') (fun nv _=>M+3 - (intOf nv).toNat)
          case atStart=>exact ⟨M - 2,by omega,by omega,congrArg (Value.int .i64) (by omega),HB.out,fun n' h1 h2=>by omega⟩
          case round=>
           obtain ⟨n,hn1,hn2,rfl,hbq,htried⟩:=hrel
           have HQ:=Lib.hid hbq
           have HT:=Lib.hid htried
           clear hbq htried
           by_cases hn:n≤M+2
           · have jn:(n:Int)≤(M:Int)+2:=by omega
             have hwn:IntKind.i64.wrap ((n:Int)+1)=(n:Int)+1:=by rw [IntKind.wrap_i64];omega
             have hn16:n<10000000000000000:=by omega
             obtain ⟨q,hq2⟩:∃ q,q=n / P:=⟨_,rfl⟩
             obtain ⟨t,ht2⟩:∃ t,t=n % P:=⟨_,rfl⟩
             have hql:q≤n:=by rw [hq2];exact Nat.div_le_self _ _
             have t1:Int.tdiv (n:Int) (P:Int)=(q:Int):=by rw [hq2];exact (Int.ofNat_tdiv n P).symm
             have t2:Int.tmod (n:Int) (P:Int)=(t:Int):=by rw [ht2];exact (Int.ofNat_tmod n P).symm
             have t10:P≠0:=by omega
             have t11:¬ P=0:=by omega
             have t6:n / P=q:=hq2.symm
             have t7:n % P=t:=ht2.symm
             have t8:(n:Int) / (P:Int)=(q:Int):=by rw [hq2];exact (Int.natCast_ediv n P).symm
             have t9:(n:Int) % (P:Int)=(t:Int):=by rw [ht2];exact (Int.natCast_emod n P).symm
             have t3:IntKind.i64.wrap (q:Int)=(q:Int):=by rw [IntKind.wrap_i64];omega
             have t4:(P:Int)≠0:=by omega
             have t5:((P:Int)==0)=false:=beq_false_of_ne t4
             obtain ⟨X,hX⟩:∃ X,X=Lib.decDigits q:=⟨_,rfl⟩
             obtain ⟨Y,hY⟩:∃ Y,Y=dgw k n:=⟨_,rfl⟩
             obtain ⟨L,hL⟩:∃ L,L=litS n k:=⟨_,rfl⟩
             have hLX:L=X++46::Y:=by rw [hL,hX,hY,hq2,HP.out];rfl
             have hXl:X.length≤16:=by
              rw [hX,Lib.decDigits_length]
              have:Lib.nDigits q≤15+1:=nDigits_le (by omega)
              omega
             have hYl:Y.length≤6:=by rw [hY,dgw_length];exact hk6
             have hLl:L.length≤30:=by rw [hLX,List.length_append,List.length_cons];omega
             have HD1:=Lib.hid (show ∀ W,Calls Tryz.prog 176 #[.int .i64 (q:Int),.int .i64 1] W fun e w'=>e = .returned (.string (str X))∧∃ z,w'=W.drewN z from fun W=>by rw [hX];exact dec_one q (by omega) W)
             have HD2:=Lib.hid (show ∀ W,Calls Tryz.prog 176 #[.int .i64 (t:Int),.int .i64 (k:Int)] W fun e w'=>e = .returned (.string (str Y))∧∃ z,w'=W.drewN z from fun W=>by rw [hY,ht2,HP.out];exact dec_pad n k hk1 hk6 W)
             have hs1:∀ W,(Op.stringOp .add (str X) (str [46])).run Tryz.prog W = .ok (.string (str (X++[46]))) W:=fun W=>by
              rw [run_string_add_sum (P:=Tryz.prog) (w:=W) (str X) (str [46]) (by rw [str_size,str_size];simp;omega),str_append]
             have hs2:∀ W,(Op.stringOp .add (str (X++[46])) (str Y)).run Tryz.prog W = .ok (.string (str L)) W:=fun W=>by
              rw [run_string_add_sum (P:=Tryz.prog) (w:=W) (str (X++[46])) (str Y) (by rw [str_size,str_size];simp;omega),str_append,List.append_assoc,hLX];rfl
             have hstep:=fun (hno:¬ LitIs c k n)=>(fun n' h1 h2=>by
              rcases Nat.lt_or_ge n' n with h | h
              · exact HT.out n' h1 h
              · have:n'=n:=by omega
                subst this
                exact hno:∀ n':Nat,M - 2≤n'→n'<n+1→¬ LitIs c k n')
             obtain ⟨qv,hqv⟩:∃ qv,qv=rpB L:=⟨_,rfl⟩
             obtain ⟨qz,hqz⟩:∃ qz,qz=rpF L:=⟨_,rfl⟩
             have HPr:=Lib.hid (show ∀ W,Calls Tryz.prog 177 #[.string (str L)] W fun e w'=>e = .returned (.tuple #[.int .u64 (qv:Int),.int .i64 qz])∧W=w' from fun W=>by rw [hqv,hqz];exact qparse_any L (by omega) W)
             have hcp:=cand_parse n k hk1 hk6
             rw [← hL,← hqv,← hqz] at hcp
             rcases hcp with ⟨h15,hq1,hqz2⟩ | ⟨h15,hq1,hqz2⟩
             · by_cases hqc:qv=c
               · have HFound:=Lib.hid (show PSpec c L 0 from .inl ⟨rfl,k,n,⟨hk1,hk6,h15,by rw [← hq1,hqc]⟩,hL,HN.out⟩)
                 have hqb:((qv:Int)==c)=true:=beq_iff_eq.2 (by omega)
                 subst hqz2
                 clear hq2 ht2 hql hX hY hL hLX hXl hYl hLl hstep hqv hqz h15 hq1 hqc hn hn16
                 go_wp2_with fail
                 go_quiet (first
                  | (go_at_call 176;first | (with_reducible exact Calls.quiet_of (HD1.out _)) | (with_reducible exact Calls.quiet_of (HD2.out _))))
                 go_wp2_with (go_at_call 177
                              go_must ((with_reducible refine (HPr.out _).mono ?_)
                                       rintro e w3 ⟨rfl,hw3⟩
                                       have HQ2:=Lib.hid (show Below w.heap.size w w3 from by rw [← hw3];exact below_drewN HQ.out _)
                                       clear hw3))
                 go_ret2
                 exact ⟨L,0,rfl,HFound.out,HQ2.out⟩
               · have hqb:((qv:Int)==c)=false:=beq_false_of_ne (by omega)
                 have HJ:=Lib.hid (hstep (fun hl=>hqc (by rw [hq1];exact hl.2.2.2)))
                 subst hqz2
                 clear hq2 ht2 hql hX hY hL hLX hXl hYl hLl hstep hqv hqz h15 hq1 hqc hn hn16
                 go_wp2_with fail
                 go_quiet (first
                  | (go_at_call 176;first | (with_reducible exact Calls.quiet_of (HD1.out _)) | (with_reducible exact Calls.quiet_of (HD2.out _))))
                 go_wp2_with (go_at_call 177
                              go_must ((with_reducible refine (HPr.out _).mono ?_)
                                       rintro e w3 ⟨rfl,hw3⟩
                                       have HQ2:=Lib.hid (show Below w.heap.size w w3 from by rw [← hw3];exact below_drewN HQ.out _)
                                       clear hw3))
                 go_roundw
                 case rel=>exact ⟨n+1,by omega,by omega,by go_num,HQ2.out,HJ.out⟩
                 case measure=>simp [intOf];omega
             · have HJ:=Lib.hid (hstep (fun hl=>by have:=hl.2.2.1;omega))
               subst hqz2
               clear hq2 ht2 hql hX hY hL hLX hXl hYl hLl hstep hqv hqz h15 hq1 hn hn16
               go_wp2_with fail
               go_quiet (first
                | (go_at_call 176;first | (with_reducible exact Calls.quiet_of (HD1.out _)) | (with_reducible exact Calls.quiet_of (HD2.out _))))
               go_wp2_with (go_at_call 177
                            go_must ((with_reducible refine (HPr.out _).mono ?_)
                                     rintro e w3 ⟨rfl,hw3⟩
                                     have HQ2:=Lib.hid (show Below w.heap.size w w3 from by rw [← hw3];exact below_drewN HQ.out _)
                                     clear hw3))
               go_roundw
               case rel=>exact ⟨n+1,by omega,by omega,by go_num,HQ2.out,HJ.out⟩
               case measure=>simp [intOf];omega
           · have jn:¬ (n:Int)≤(M:Int)+2:=by omega
             have HNN:=Lib.hid (noLit_succ HN.out (fun n' hl=>by
              rcases HML.out n' hl with e | e
              · exact HT.out n' (by omega) (by omega) hl
              · exact HT.out n' (by omega) (by omega) hl))
             clear hn
             go_wp2_with fail
             go_roundw
             case rel=>exact ⟨k+1,by omega,by omega,by rw [HPW.out],by go_num,HQ.out,HNN.out⟩
             case measure=>simp [intOf];omega
        · have ik6:¬ (k:Int)≤6:=by omega
          have hk7':k=7:=by omega
          have HNL:=Lib.hid (noLit_all (hk7' ▸ HN.out))
          clear hk7'
          go_wp2_with fail
          go_ret2
          exact ⟨[],2,rfl,.inr ⟨rfl,rfl,HNL.out⟩,HB.out⟩
     · rw [hcmp] at hov
       have ho:FloatKind.f64.format.order c 4831355200913801216=some .eq:=hov
       have HNL:=Lib.hid (horder (by rw [hov];simp))
       clear hov hcmp horder hB hnan hcl h63
       go_enter Tryz.func135,Tryz.ntmps135
       go_wp2_with (first
        | (go_at_call 86;(with_reducible refine (g1 _).mono ?_);rintro e w' ⟨rfl,rfl⟩)
        | (go_at_call 140;(with_reducible refine (g2 _).mono ?_);rintro e w' ⟨rfl,rfl⟩))
       go_ret2
       exact ⟨[],2,rfl,.inr ⟨rfl,rfl,HNL.out⟩,Below.refl _ _⟩
     · rw [hcmp] at hov
       have ho:FloatKind.f64.format.order c 4831355200913801216=some .gt:=hov
       have HNL:=Lib.hid (horder (by rw [hov];simp))
       clear hov hcmp horder hB hnan hcl h63
       go_enter Tryz.func135,Tryz.ntmps135
       go_wp2_with (first
        | (go_at_call 86;(with_reducible refine (g1 _).mono ?_);rintro e w' ⟨rfl,rfl⟩)
        | (go_at_call 140;(with_reducible refine (g2 _).mono ?_);rintro e w' ⟨rfl,rfl⟩))
       go_ret2
       exact ⟨[],2,rfl,.inr ⟨rfl,rfl,HNL.out⟩,Below.refl _ _⟩
   · have hsh:(c:Int) / 9223372036854775808=1:=by omega
     have HNL:=Lib.hid (show ∀ k n,¬ LitIs c k n from fun k n h=>h63 h.bound.2.2)
     clear h63 hcl hnan
     go_enter Tryz.func135,Tryz.ntmps135
     go_wp2_with (first
      | (go_at_call 86;(with_reducible refine (g1 _).mono ?_);rintro e w' ⟨rfl,rfl⟩)
      | (go_at_call 140;(with_reducible refine (g2 _).mono ?_);rintro e w' ⟨rfl,rfl⟩))
     go_ret2
     exact ⟨[],2,rfl,.inr ⟨rfl,rfl,HNL.out⟩,Below.refl _ _⟩
end
end Go.Proofs.YtinjiigdijbjeaaGreatDoor
section
namespace Go.Proofs.YtinjiigdijbjeaaGreatDoor
open Go.RowKit Go.As Ieee
theorem PSpec.total (c:Nat):(∃ t,PSpec c t 0)∨PSpec c [] 2:=by
 have step:∀ k,NoLit c k→(∃ t,PSpec c t 0)∨NoLit c (k+1):=fun k h=>by
  by_cases g:∃ n,LitIs c k n
  · obtain ⟨n,hn⟩:=g
    exact .inl ⟨litS n k,.inl ⟨rfl,k,n,hn,rfl,h⟩⟩
  · exact .inr (noLit_succ h (fun n hn=>g ⟨n,hn⟩))
 have all:∀ k,(∃ t,PSpec c t 0)∨NoLit c (k+1):=fun k=>by
  induction k with
  | zero=>exact .inr (noLit_one c)
  | succ k ih=>exact ih.elim .inl (step (k+1))
 rcases all 6 with h | h
 · exact .inl h
 · exact .inr (.inr ⟨rfl,rfl,noLit_all h⟩)
theorem PSpec.len {c:Nat} {t:List UInt8} {z:Int} (h:PSpec c t z):t.length≤1048576:=by
 rcases h with ⟨_,k,n,h1,rfl,_⟩ | ⟨_,rfl,_⟩
 · exact lit_short (by have:=h1.2.2.1;omega) h1.2.1
 · simp
end Go.Proofs.YtinjiigdijbjeaaGreatDoor
end
namespace Go.Proofs.YtinjiigdijbjeaaGreatDoor
open Go.RowKit Go.As
section
theorem allN_run (l:List UInt8):(runL (fun c=>letterB c || digitB c) l 0=l.length)↔allN l=true:=by
 simp only [runL,allN,List.drop_zero,Nat.zero_add]
 constructor
 · intro h
   rw [List.all_eq_true]
   have hp:=List.takeWhile_prefix (l:=l) (fun c=>letterB (c.toNat:Int) || digitB (c.toNat:Int))
   have:=hp.eq_of_length h
   intro x hx
   rw [← this] at hx
   have:=List.all_takeWhile (p:=fun c:UInt8=>letterB (c.toNat:Int) || digitB (c.toNat:Int)) (l:=l)
   rw [List.all_eq_true] at this
   exact this x hx
 · intro h
   rw [List.all_eq_true] at h
   congr 1
   induction l with
   | nil=>rfl
   | cons c r ih=>
     have hc:(letterB (c.toNat:Int) || digitB (c.toNat:Int))=true:=h c (by simp)
     rw [List.takeWhile_cons,if_pos hc]
     rw [ih (fun x hx=>h x (by simp [hx]))]
set_option maxHeartbeats 800000 in
theorem name_any (l:List UInt8) (w:World) (hl:l.length≤maxLen):Calls Tryz.prog 60 #[.string (str l)] w fun e w'=>e = .returned (.bool (nameB l))∧w=w':=by
 have hrun:=run_any 110 (fun c=>letterB c || digitB c) l 0 w hl (by omega) (fun args w=>by simp [go_sem]) (fun c w=>name1_any c w)
 have HR:=Lib.hid hrun
 clear hrun
 unfold maxLen at hl
 by_cases h0:l.length<1
 · have:l=[]:=List.eq_nil_of_length_eq_zero (by omega)
   subst this
   go_enter Tryz.func60,Tryz.ntmps60
   go_wp2_with fail
   go_ret
   exact ⟨ret_bool (by simp [nameB]),rfl⟩
 have hne:l.isEmpty=false:=by cases l <;> simp_all
 have hne':(l==[])=false:=by cases l <;> simp_all
 by_cases h1:24<l.length
 · go_enter Tryz.func60,Tryz.ntmps60
   go_wp2_with fail
   go_ret
   exact ⟨ret_bool (by simp [nameB,h1]),rfl⟩
 have h00:0<l.length:=by omega
 cases hL:letterB (l[0].toNat:Int)
 · have HL:=Lib.hid hL
   clear hL
   go_enter Tryz.func60,Tryz.ntmps60
   go_wp2_with (go_at_call 107;refine (letter_any _ _).mono ?_;rintro e w' ⟨rfl,rfl⟩;have hL:=HL.out)
   go_ret
   exact ⟨ret_bool (by simp only [nameB,head_get h00,HL.out];simp),rfl⟩
 cases hw:wordB l
 all_goals
  have HL:=Lib.hid hL
  have HW:=Lib.hid hw
  clear hL hw
  go_enter Tryz.func60,Tryz.ntmps60
  go_wp2_with (first | (go_at_call 107;refine (letter_any _ _).mono ?_;rintro e w' ⟨rfl,rfl⟩;have hL:=HL.out) | (go_at_call 108;refine (word_any _ _).mono ?_;rintro e w1 ⟨rfl,rfl⟩;have hw:=HW.out) | (go_at_call 109;refine (HR.out).mono ?_;rintro e w1 ⟨rfl,rfl⟩))
 · go_ret
   refine ⟨ret_bool ?_,rfl⟩
   rw [Bool.eq_iff_iff]
   simp only [nameB,head_get h00,HL.out,HW.out,if_neg h0,if_neg h1]
   simp
   rw [← allN_run]
   omega
 · go_ret
   exact ⟨ret_bool (by simp only [nameB,head_get h00,HL.out,HW.out];simp),rfl⟩
end
section
theorem qmay_any (a:Int) (w:World):Calls Tryz.prog 44 #[.int .u64 a] w fun e w'=>e = .returned (.bool (((toN a.toNat:Nat):Int)==a))∧w=w':=by
 go_enter Tryz.func44,Tryz.ntmps44
 go_wp2_with (first
  | (go_at_call 86;refine (qcanon_any _ _).mono ?_;rintro e w' ⟨rfl,rfl⟩))
 go_ret
 exact ⟨rfl,rfl⟩
theorem pequal_any (a b:Int) (w:World):Calls Tryz.prog 304 #[.int .u64 a,.int .u64 b] w fun e w'=>e = .returned (.bool (FloatKind.f64.format.order a.toNat b.toNat==some .eq))∧w=w':=by
 go_enter Tryz.func304,Tryz.ntmps304
 go_wp2_with (first
  | (go_at_call 117;refine (pof_any _ _).mono ?_;rintro e w' ⟨rfl,rfl⟩))
 go_ret
 exact ⟨rfl,rfl⟩
theorem qequal_any (a b:Int) (w:World):Calls Tryz.prog 92 #[.int .u64 a,.int .u64 b] w fun e w'=>e = .returned (.bool (FloatKind.f64.format.order a.toNat b.toNat==some .eq))∧w=w':=by
 go_enter Tryz.func92,Tryz.ntmps92
 go_wp2_with (first
  | (go_at_call 140;refine (qof_any _ _).mono ?_;rintro e w' ⟨rfl,rfl⟩))
 go_ret
 exact ⟨rfl,rfl⟩
theorem pless_any (a b:Int) (w:World):Calls Tryz.prog 305 #[.int .u64 a,.int .u64 b] w fun e w'=>e = .returned (.bool (FloatKind.f64.format.order a.toNat b.toNat==some .lt))∧w=w':=by
 go_enter Tryz.func305,Tryz.ntmps305
 go_wp2_with (first
  | (go_at_call 117;refine (pof_any _ _).mono ?_;rintro e w' ⟨rfl,rfl⟩))
 go_ret
 exact ⟨rfl,rfl⟩
theorem qless_any (a b:Int) (w:World):Calls Tryz.prog 93 #[.int .u64 a,.int .u64 b] w fun e w'=>e = .returned (.bool (FloatKind.f64.format.order a.toNat b.toNat==some .lt))∧w=w':=by
 go_enter Tryz.func93,Tryz.ntmps93
 go_wp2_with (first
  | (go_at_call 140;refine (qof_any _ _).mono ?_;rintro e w' ⟨rfl,rfl⟩))
 go_ret
 exact ⟨rfl,rfl⟩
theorem pfromint_any (n:Int) (w:World):Calls Tryz.prog 79 #[.int .i64 n] w fun e w'=>e = .returned (.int .u64 (toN (floatOfInt .f64 n)))∧w=w':=by
 go_enter Tryz.func79,Tryz.ntmps79
 go_wp2_with (first
  | (go_at_call 116;refine (pto_any _ _).mono ?_;rintro e w' ⟨rfl,rfl⟩))
 go_ret
 exact ⟨rfl,rfl⟩
theorem qfromint_any (n:Int) (w:World):Calls Tryz.prog 89 #[.int .i64 n] w fun e w'=>e = .returned (.int .u64 (toN (floatOfInt .f64 n)))∧w=w':=by
 go_enter Tryz.func89,Tryz.ntmps89
 go_wp2_with (first
  | (go_at_call 139;refine (qto_any _ _).mono ?_;rintro e w' ⟨rfl,rfl⟩))
 go_ret
 exact ⟨rfl,rfl⟩
theorem padd_any (a b:Int) (w:World):Calls Tryz.prog 170 #[.int .u64 a,.int .u64 b] w fun e w'=>e = .returned (.int .u64 (arN .add a.toNat b.toNat))∧∃ q,w'=w.drewN q:=by
 cases h:floatBits .add .f64 a.toNat b.toNat with
 | some r=>
   have hrun:=fun w t=>run_float_arith (P:=Tryz.prog) w .add t .f64 _ _ _ h
   have HE:=Lib.hid (show arN .add a.toNat b.toNat=toN r by simp [arN,h])
   clear h
   go_enter Tryz.func170,Tryz.ntmps170
   go_wp2_with (first
    | (go_at_call 117;refine (pof_any _ _).mono ?_;rintro e w' ⟨rfl,rfl⟩)
    | (go_at_call 116;refine (pto_any _ _).mono ?_;rintro e w' ⟨rfl,rfl⟩))
   go_ret
   exact ⟨by rw [HE.out];rfl,0,rfl⟩
 | none=>
   obtain ⟨r,hrun,hnan⟩:=run_float_nan (P:=Tryz.prog) w .add 185 _ _ (.inl rfl) h
   have HE:=Lib.hid (show ((toN r:Nat):Int)=(arN .add a.toNat b.toNat:Nat) by simp [arN,h,toN,hnan])
   clear h hnan
   go_enter Tryz.func170,Tryz.ntmps170
   go_wp2_with (first
    | (go_at_call 117;refine (pof_any _ _).mono ?_;rintro e w' ⟨rfl,rfl⟩)
    | (go_at_call 116;refine (pto_any _ _).mono ?_;rintro e w' ⟨rfl,rfl⟩))
   go_ret
   exact ⟨by rw [HE.out];rfl,1,rfl⟩
theorem qadd_any (a b:Int) (w:World):Calls Tryz.prog 142 #[.int .u64 a,.int .u64 b] w fun e w'=>e = .returned (.int .u64 (arN .add a.toNat b.toNat))∧∃ q,w'=w.drewN q:=by
 cases h:floatBits .add .f64 a.toNat b.toNat with
 | some r=>
   have hrun:=fun w t=>run_float_arith (P:=Tryz.prog) w .add t .f64 _ _ _ h
   have HE:=Lib.hid (show arN .add a.toNat b.toNat=toN r by simp [arN,h])
   clear h
   go_enter Tryz.func142,Tryz.ntmps142
   go_wp2_with (first
    | (go_at_call 140;refine (qof_any _ _).mono ?_;rintro e w' ⟨rfl,rfl⟩)
    | (go_at_call 139;refine (qto_any _ _).mono ?_;rintro e w' ⟨rfl,rfl⟩))
   go_ret
   exact ⟨by rw [HE.out];rfl,0,rfl⟩
 | none=>
   obtain ⟨r,hrun,hnan⟩:=run_float_nan (P:=Tryz.prog) w .add 185 _ _ (.inl rfl) h
   have HE:=Lib.hid (show ((toN r:Nat):Int)=(arN .add a.toNat b.toNat:Nat) by simp [arN,h,toN,hnan])
   clear h hnan
   go_enter Tryz.func142,Tryz.ntmps142
   go_wp2_with (first
    | (go_at_call 140;refine (qof_any _ _).mono ?_;rintro e w' ⟨rfl,rfl⟩)
    | (go_at_call 139;refine (qto_any _ _).mono ?_;rintro e w' ⟨rfl,rfl⟩))
   go_ret
   exact ⟨by rw [HE.out];rfl,1,rfl⟩
theorem psub_any (a b:Int) (w:World):Calls Tryz.prog 171 #[.int .u64 a,.int .u64 b] w fun e w'=>e = .returned (.int .u64 (arN .sub a.toNat b.toNat))∧∃ q,w'=w.drewN q:=by
 cases h:floatBits .sub .f64 a.toNat b.toNat with
 | some r=>
   have hrun:=fun w t=>run_float_arith (P:=Tryz.prog) w .sub t .f64 _ _ _ h
   have HE:=Lib.hid (show arN .sub a.toNat b.toNat=toN r by simp [arN,h])
   clear h
   go_enter Tryz.func171,Tryz.ntmps171
   go_wp2_with (first
    | (go_at_call 117;refine (pof_any _ _).mono ?_;rintro e w' ⟨rfl,rfl⟩)
    | (go_at_call 116;refine (pto_any _ _).mono ?_;rintro e w' ⟨rfl,rfl⟩))
   go_ret
   exact ⟨by rw [HE.out];rfl,0,rfl⟩
 | none=>
   obtain ⟨r,hrun,hnan⟩:=run_float_nan (P:=Tryz.prog) w .sub 185 _ _ (.inr (.inl rfl)) h
   have HE:=Lib.hid (show ((toN r:Nat):Int)=(arN .sub a.toNat b.toNat:Nat) by simp [arN,h,toN,hnan])
   clear h hnan
   go_enter Tryz.func171,Tryz.ntmps171
   go_wp2_with (first
    | (go_at_call 117;refine (pof_any _ _).mono ?_;rintro e w' ⟨rfl,rfl⟩)
    | (go_at_call 116;refine (pto_any _ _).mono ?_;rintro e w' ⟨rfl,rfl⟩))
   go_ret
   exact ⟨by rw [HE.out];rfl,1,rfl⟩
theorem qsub_any (a b:Int) (w:World):Calls Tryz.prog 143 #[.int .u64 a,.int .u64 b] w fun e w'=>e = .returned (.int .u64 (arN .sub a.toNat b.toNat))∧∃ q,w'=w.drewN q:=by
 cases h:floatBits .sub .f64 a.toNat b.toNat with
 | some r=>
   have hrun:=fun w t=>run_float_arith (P:=Tryz.prog) w .sub t .f64 _ _ _ h
   have HE:=Lib.hid (show arN .sub a.toNat b.toNat=toN r by simp [arN,h])
   clear h
   go_enter Tryz.func143,Tryz.ntmps143
   go_wp2_with (first
    | (go_at_call 140;refine (qof_any _ _).mono ?_;rintro e w' ⟨rfl,rfl⟩)
    | (go_at_call 139;refine (qto_any _ _).mono ?_;rintro e w' ⟨rfl,rfl⟩))
   go_ret
   exact ⟨by rw [HE.out];rfl,0,rfl⟩
 | none=>
   obtain ⟨r,hrun,hnan⟩:=run_float_nan (P:=Tryz.prog) w .sub 185 _ _ (.inr (.inl rfl)) h
   have HE:=Lib.hid (show ((toN r:Nat):Int)=(arN .sub a.toNat b.toNat:Nat) by simp [arN,h,toN,hnan])
   clear h hnan
   go_enter Tryz.func143,Tryz.ntmps143
   go_wp2_with (first
    | (go_at_call 140;refine (qof_any _ _).mono ?_;rintro e w' ⟨rfl,rfl⟩)
    | (go_at_call 139;refine (qto_any _ _).mono ?_;rintro e w' ⟨rfl,rfl⟩))
   go_ret
   exact ⟨by rw [HE.out];rfl,1,rfl⟩
theorem pmul_any (a b:Int) (w:World):Calls Tryz.prog 172 #[.int .u64 a,.int .u64 b] w fun e w'=>e = .returned (.int .u64 (arN .mul a.toNat b.toNat))∧∃ q,w'=w.drewN q:=by
 cases h:floatBits .mul .f64 a.toNat b.toNat with
 | some r=>
   have hrun:=fun w t=>run_float_arith (P:=Tryz.prog) w .mul t .f64 _ _ _ h
   have HE:=Lib.hid (show arN .mul a.toNat b.toNat=toN r by simp [arN,h])
   clear h
   go_enter Tryz.func172,Tryz.ntmps172
   go_wp2_with (first
    | (go_at_call 117;refine (pof_any _ _).mono ?_;rintro e w' ⟨rfl,rfl⟩)
    | (go_at_call 116;refine (pto_any _ _).mono ?_;rintro e w' ⟨rfl,rfl⟩))
   go_ret
   exact ⟨by rw [HE.out];rfl,0,rfl⟩
 | none=>
   obtain ⟨r,hrun,hnan⟩:=run_float_nan (P:=Tryz.prog) w .mul 185 _ _ (.inr (.inr (.inl rfl))) h
   have HE:=Lib.hid (show ((toN r:Nat):Int)=(arN .mul a.toNat b.toNat:Nat) by simp [arN,h,toN,hnan])
   clear h hnan
   go_enter Tryz.func172,Tryz.ntmps172
   go_wp2_with (first
    | (go_at_call 117;refine (pof_any _ _).mono ?_;rintro e w' ⟨rfl,rfl⟩)
    | (go_at_call 116;refine (pto_any _ _).mono ?_;rintro e w' ⟨rfl,rfl⟩))
   go_ret
   exact ⟨by rw [HE.out];rfl,1,rfl⟩
theorem qmul_any (a b:Int) (w:World):Calls Tryz.prog 144 #[.int .u64 a,.int .u64 b] w fun e w'=>e = .returned (.int .u64 (arN .mul a.toNat b.toNat))∧∃ q,w'=w.drewN q:=by
 cases h:floatBits .mul .f64 a.toNat b.toNat with
 | some r=>
   have hrun:=fun w t=>run_float_arith (P:=Tryz.prog) w .mul t .f64 _ _ _ h
   have HE:=Lib.hid (show arN .mul a.toNat b.toNat=toN r by simp [arN,h])
   clear h
   go_enter Tryz.func144,Tryz.ntmps144
   go_wp2_with (first
    | (go_at_call 140;refine (qof_any _ _).mono ?_;rintro e w' ⟨rfl,rfl⟩)
    | (go_at_call 139;refine (qto_any _ _).mono ?_;rintro e w' ⟨rfl,rfl⟩))
   go_ret
   exact ⟨by rw [HE.out];rfl,0,rfl⟩
 | none=>
   obtain ⟨r,hrun,hnan⟩:=run_float_nan (P:=Tryz.prog) w .mul 185 _ _ (.inr (.inr (.inl rfl))) h
   have HE:=Lib.hid (show ((toN r:Nat):Int)=(arN .mul a.toNat b.toNat:Nat) by simp [arN,h,toN,hnan])
   clear h hnan
   go_enter Tryz.func144,Tryz.ntmps144
   go_wp2_with (first
    | (go_at_call 140;refine (qof_any _ _).mono ?_;rintro e w' ⟨rfl,rfl⟩)
    | (go_at_call 139;refine (qto_any _ _).mono ?_;rintro e w' ⟨rfl,rfl⟩))
   go_ret
   exact ⟨by rw [HE.out];rfl,1,rfl⟩
theorem pquo_any (a b:Int) (w:World):Calls Tryz.prog 173 #[.int .u64 a,.int .u64 b] w fun e w'=>e = .returned (.int .u64 (arN .quo a.toNat b.toNat))∧∃ q,w'=w.drewN q:=by
 cases h:floatBits .quo .f64 a.toNat b.toNat with
 | some r=>
   have hrun:=fun w t=>run_float_arith (P:=Tryz.prog) w .quo t .f64 _ _ _ h
   have HE:=Lib.hid (show arN .quo a.toNat b.toNat=toN r by simp [arN,h])
   clear h
   go_enter Tryz.func173,Tryz.ntmps173
   go_wp2_with (first
    | (go_at_call 117;refine (pof_any _ _).mono ?_;rintro e w' ⟨rfl,rfl⟩)
    | (go_at_call 116;refine (pto_any _ _).mono ?_;rintro e w' ⟨rfl,rfl⟩))
   go_ret
   exact ⟨by rw [HE.out];rfl,0,rfl⟩
 | none=>
   obtain ⟨r,hrun,hnan⟩:=run_float_nan (P:=Tryz.prog) w .quo 185 _ _ (.inr (.inr (.inr rfl))) h
   have HE:=Lib.hid (show ((toN r:Nat):Int)=(arN .quo a.toNat b.toNat:Nat) by simp [arN,h,toN,hnan])
   clear h hnan
   go_enter Tryz.func173,Tryz.ntmps173
   go_wp2_with (first
    | (go_at_call 117;refine (pof_any _ _).mono ?_;rintro e w' ⟨rfl,rfl⟩)
    | (go_at_call 116;refine (pto_any _ _).mono ?_;rintro e w' ⟨rfl,rfl⟩))
   go_ret
   exact ⟨by rw [HE.out];rfl,1,rfl⟩
theorem qquo_any (a b:Int) (w:World):Calls Tryz.prog 145 #[.int .u64 a,.int .u64 b] w fun e w'=>e = .returned (.int .u64 (arN .quo a.toNat b.toNat))∧∃ q,w'=w.drewN q:=by
 cases h:floatBits .quo .f64 a.toNat b.toNat with
 | some r=>
   have hrun:=fun w t=>run_float_arith (P:=Tryz.prog) w .quo t .f64 _ _ _ h
   have HE:=Lib.hid (show arN .quo a.toNat b.toNat=toN r by simp [arN,h])
   clear h
   go_enter Tryz.func145,Tryz.ntmps145
   go_wp2_with (first
    | (go_at_call 140;refine (qof_any _ _).mono ?_;rintro e w' ⟨rfl,rfl⟩)
    | (go_at_call 139;refine (qto_any _ _).mono ?_;rintro e w' ⟨rfl,rfl⟩))
   go_ret
   exact ⟨by rw [HE.out];rfl,0,rfl⟩
 | none=>
   obtain ⟨r,hrun,hnan⟩:=run_float_nan (P:=Tryz.prog) w .quo 185 _ _ (.inr (.inr (.inr rfl))) h
   have HE:=Lib.hid (show ((toN r:Nat):Int)=(arN .quo a.toNat b.toNat:Nat) by simp [arN,h,toN,hnan])
   clear h hnan
   go_enter Tryz.func145,Tryz.ntmps145
   go_wp2_with (first
    | (go_at_call 140;refine (qof_any _ _).mono ?_;rintro e w' ⟨rfl,rfl⟩)
    | (go_at_call 139;refine (qto_any _ _).mono ?_;rintro e w' ⟨rfl,rfl⟩))
   go_ret
   exact ⟨by rw [HE.out];rfl,1,rfl⟩
theorem pneg_any (a:Int) (w:World):Calls Tryz.prog 174 #[.int .u64 a] w fun e w'=>e = .returned (.int .u64 (ngN a))∧w=w':=by
 by_cases h:FloatKind.f64.format.order a.toNat a.toNat=some .eq
 · rw [show ngN a=bits .xor .u64 a 9223372036854775808 by simp [ngN,h]]
   go_enter Tryz.func174,Tryz.ntmps174
   go_wp2_with (first
    | (go_at_call 117;refine (pof_any _ _).mono ?_;rintro e w' ⟨rfl,rfl⟩))
   go_ret
   exact ⟨rfl,rfl⟩
 · rw [show ngN a=9221120237041090560 by simp [ngN,h]]
   have hb:(FloatKind.f64.format.order a.toNat a.toNat != some .eq)=true:=by simpa using h
   clear h
   go_enter Tryz.func174,Tryz.ntmps174
   go_wp2_with (first
    | (go_at_call 117;refine (pof_any _ _).mono ?_;rintro e w' ⟨rfl,rfl⟩))
   go_ret
   exact ⟨rfl,rfl⟩
theorem qneg_any (a:Int) (w:World):Calls Tryz.prog 91 #[.int .u64 a] w fun e w'=>e = .returned (.int .u64 (ngN a))∧w=w':=by
 have hc:=toN_const a.toNat
 by_cases h:FloatKind.f64.format.order a.toNat a.toNat=some .eq
 · rw [show ngN a=bits .xor .u64 a 9223372036854775808 by simp [ngN,h]]
   rw [h] at hc
   have hc':(((toN a.toNat:Nat):Int)==9221120237041090560)=false:=by rw [hc];rfl
   clear hc h
   go_enter Tryz.func91,Tryz.ntmps91
   go_wp2_with (first
    | (go_at_call 86;refine (qcanon_any _ _).mono ?_;rintro e w' ⟨rfl,rfl⟩))
   go_ret
   exact ⟨rfl,rfl⟩
 · rw [show ngN a=9221120237041090560 by simp [ngN,h]]
   have hb:(FloatKind.f64.format.order a.toNat a.toNat != some .eq)=true:=by simpa using h
   rw [hb] at hc
   clear h hb
   go_enter Tryz.func91,Tryz.ntmps91
   go_wp2_with (first
    | (go_at_call 86;refine (qcanon_any _ _).mono ?_;rintro e w' ⟨rfl,rfl⟩))
   go_ret
   exact ⟨rfl,rfl⟩
theorem ptoint_any (a:Int) (w:World):Calls Tryz.prog 80 #[.int .u64 a] w fun e w'=>e = .returned (.tuple #[.int .i64 (tiN a.toNat).1,.bool (tiN a.toNat).2])∧w=w':=by
 obtain ⟨b,hb⟩:∃ b,b=a.toNat:=⟨_,rfl⟩
 have HO:=Lib.hid (fun w=>pof_any a w)
 rw [← hb] at HO ⊢
 clear hb
 rcases ti_cases b with ⟨h1,h2,h3⟩ | ⟨c,d,h1,h2,h3⟩
 · have ht:tiN b=(0,false):=by simp [tiN,h2]
   rw [ht]
   clear ht
   go_enter Tryz.func80,Tryz.ntmps80
   go_wp2_with (go_at_call 117;refine (HO.out _).mono ?_;rintro e w' ⟨rfl,rfl⟩)
   go_ret2
   exact ⟨rfl,rfl⟩
 · have hcv:∀ (n:Int),floatToIntVal .f64 b .i64=some n→∀ w,(convert 185 2 (.float .f64 b)).run Tryz.prog w = .ok (.int .i64 n) w:=fun n h w=>run_convert_float_int (P:=Tryz.prog) w 185 2 .f64 .i64 b n (by kernel_rfl) Tryz.underlying2 h
   have hin:=fun (h2:FloatKind.f64.format.order b 4890909195324358656=some .lt) h3=>@ti_val b h2 h3
   cases c
   case lt=>
    cases d
    case lt=>
     have ht:tiN b=(0,false):=by simp [tiN,h3]
     rw [ht]
     clear ht hcv hin
     go_enter Tryz.func80,Tryz.ntmps80
     go_wp2_with (go_at_call 117;refine (HO.out _).mono ?_;rintro e w' ⟨rfl,rfl⟩)
     go_ret2
     exact ⟨rfl,rfl⟩
    case eq=>
     obtain ⟨hv,ht⟩:=hin h2 (.inr h3)
     have hrun:=hcv _ hv
     rw [ht]
     generalize (tiN b).1=n at *
     clear ht hcv hin hv
     go_enter Tryz.func80,Tryz.ntmps80
     go_wp2_with (go_at_call 117;refine (HO.out _).mono ?_;rintro e w' ⟨rfl,rfl⟩)
     go_ret2
     exact ⟨rfl,rfl⟩
    case gt=>
     obtain ⟨hv,ht⟩:=hin h2 (.inl h3)
     have hrun:=hcv _ hv
     rw [ht]
     generalize (tiN b).1=n at *
     clear ht hcv hin hv
     go_enter Tryz.func80,Tryz.ntmps80
     go_wp2_with (go_at_call 117;refine (HO.out _).mono ?_;rintro e w' ⟨rfl,rfl⟩)
     go_ret2
     exact ⟨rfl,rfl⟩
   all_goals
    have ht:tiN b=(0,false):=by simp [tiN,h2]
    rw [ht]
    clear ht hcv hin
    cases d
    all_goals
     go_enter Tryz.func80,Tryz.ntmps80
     go_wp2_with (go_at_call 117;refine (HO.out _).mono ?_;rintro e w' ⟨rfl,rfl⟩)
     go_ret2
     exact ⟨rfl,rfl⟩
theorem qtoint_any (a:Int) (w:World):Calls Tryz.prog 90 #[.int .u64 a] w fun e w'=>e = .returned (.tuple #[.int .i64 (tiN a.toNat).1,.bool (tiN a.toNat).2])∧w=w':=by
 obtain ⟨b,hb⟩:∃ b,b=a.toNat:=⟨_,rfl⟩
 have HO:=Lib.hid (fun w=>qof_any a w)
 rw [← hb] at HO ⊢
 clear hb
 rcases ti_cases b with ⟨h1,h2,h3⟩ | ⟨c,d,h1,h2,h3⟩
 · have ht:tiN b=(0,false):=by simp [tiN,h2]
   rw [ht]
   clear ht
   go_enter Tryz.func90,Tryz.ntmps90
   go_wp2_with (go_at_call 140;refine (HO.out _).mono ?_;rintro e w' ⟨rfl,rfl⟩)
   go_ret2
   exact ⟨rfl,rfl⟩
 · have hcv:∀ (n:Int),floatToIntVal .f64 b .i64=some n→∀ w,(convert 185 2 (.float .f64 b)).run Tryz.prog w = .ok (.int .i64 n) w:=fun n h w=>run_convert_float_int (P:=Tryz.prog) w 185 2 .f64 .i64 b n (by kernel_rfl) Tryz.underlying2 h
   have hin:=fun (h2:FloatKind.f64.format.order b 4890909195324358656=some .lt) h3=>@ti_val b h2 h3
   cases c
   case lt=>
    cases d
    case lt=>
     have ht:tiN b=(0,false):=by simp [tiN,h3]
     rw [ht]
     clear ht hcv hin
     go_enter Tryz.func90,Tryz.ntmps90
     go_wp2_with (go_at_call 140;refine (HO.out _).mono ?_;rintro e w' ⟨rfl,rfl⟩)
     go_ret2
     exact ⟨rfl,rfl⟩
    case eq=>
     obtain ⟨hv,ht⟩:=hin h2 (.inr h3)
     have hrun:=hcv _ hv
     rw [ht]
     generalize (tiN b).1=n at *
     clear ht hcv hin hv
     go_enter Tryz.func90,Tryz.ntmps90
     go_wp2_with (go_at_call 140;refine (HO.out _).mono ?_;rintro e w' ⟨rfl,rfl⟩)
     go_ret2
     exact ⟨rfl,rfl⟩
    case gt=>
     obtain ⟨hv,ht⟩:=hin h2 (.inl h3)
     have hrun:=hcv _ hv
     rw [ht]
     generalize (tiN b).1=n at *
     clear ht hcv hin hv
     go_enter Tryz.func90,Tryz.ntmps90
     go_wp2_with (go_at_call 140;refine (HO.out _).mono ?_;rintro e w' ⟨rfl,rfl⟩)
     go_ret2
     exact ⟨rfl,rfl⟩
   all_goals
    have ht:tiN b=(0,false):=by simp [tiN,h2]
    rw [ht]
    clear ht hcv hin
    cases d
    all_goals
     go_enter Tryz.func90,Tryz.ntmps90
     go_wp2_with (go_at_call 140;refine (HO.out _).mono ?_;rintro e w' ⟨rfl,rfl⟩)
     go_ret2
     exact ⟨rfl,rfl⟩
end
end Go.Proofs.YtinjiigdijbjeaaGreatDoor
