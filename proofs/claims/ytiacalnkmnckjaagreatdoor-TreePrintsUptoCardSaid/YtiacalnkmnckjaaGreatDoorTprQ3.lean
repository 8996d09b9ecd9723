/- Texts of this proof, one behind the other. Conditions: those in each theorem. -/
import Derived.Test.YtiacalnkmnckjaaGreatDoorTprQ2
import Derived.Test.YtiacalnkmnckjaaGreatDoorTprQ1
import Derived.OpenShut
import Derived.Carry
import Derived.Deep.Slices
set_option linter.unusedVariables false
set_option linter.unusedSimpArgs false
section
namespace Go.Proofs.YtiacalnkmnckjaaGreatDoor
open Go.RowKit Go.As
set_option maxRecDepth 100000 in
set_option maxHeartbeats 3200000 in
theorem qprint_any (b:Nat) (hb:b<18446744073709551616) (w:World):
  Calls Tryz.prog 140 #[.int .u64 (b:Int)] w fun e w'=>∃ s z,e = .returned (.tuple #[.string (str s),.int .i64 z])∧PSpec (toN b) s z∧Below w.heap.size w w':=by
 obtain ⟨c,hc⟩:∃ c,c=toN b:=⟨_,rfl⟩
 have hcl:c<18446744073709551616:=by
  rw [hc];unfold toN;split <;> omega
 have g1:=fun W=>qcanon' (a:=b) (r:=c) W hc.symm
 have g2:=fun W=>qof' c W
 have hcc:toN c=c:=by rw [hc,toN_toN]
 rw [← hc]
 clear hc hb
 cases hnan:nanW c with
 | true=>
   have HNL:=Lib.hid (show ∀ k n,¬ LitIs c k n from fun k n h=>by have:=h.bound.2.1;rw [hnan] at this;cases this)
   rw [toN_nanW hnan] at hcc
   have hq:((c:Int)==9221120237041090560)=true:=beq_iff_eq.2 (by omega)
   clear hnan hcl hcc
   go_enter Tryz.func140,Tryz.ntmps140
   go_wp2_with (first
    | (go_at_call 203;(with_reducible refine (g1 _).mono ?_);rintro e w' ⟨rfl,rfl⟩)
    | (go_at_call 204;(with_reducible refine (g2 _).mono ?_);rintro e w' ⟨rfl,rfl⟩))
   go_ret2
   exact ⟨[],2,rfl,.inr ⟨rfl,rfl,HNL.out⟩,Below.refl _ _⟩
 | false=>
   have hne:c≠9221120237041090560:=fun e=>by rw [e,nan_lit] at hnan;cases hnan
   have hq:((c:Int)==9221120237041090560)=false:=beq_false_of_ne (by omega)
   clear hcc hne
   by_cases h63:c<9223372036854775808
   · have hsh:(c:Int) / 9223372036854775808=0:=by omega
     have horder:=fun (h:fd.order c w15≠some .lt)=>(fun k n hl=>h (LitIs.bound hl).1:∀ k n,¬ LitIs c k n)
     obtain ⟨B,hB⟩:=big_is
     have hov:=order_val hB (x:=c) (y:=w15) hnan (by decide)
     rcases hcmp:compare (val B (fd.read c)) (val B (fd.read w15)) with _ | _ | _
     · rw [hcmp] at hov
       have ho:FloatKind.f64.format.order c 4831355200913801216=some .lt:=hov
       have hnum:∃ m i,fd.read c = .number false m i:=by
        cases hr:fd.read c with
        | nan s p=>unfold nanW at hnan;rw [hr] at hnan;cases hnan
        | infinity s=>
          cases s with
          | true=>
            have h1:=read_inf hcl hr
            rw [fd_inf] at h1
            unfold Ieee.Format.word at h1
            rw [if_pos rfl,fd_sw] at h1
            omega
          | false=>
            have h1:fd.order c w15=some .gt:=by
             unfold Ieee.Format.order
             rw [hr,w15_read]
             simp only [Ieee.Datum.order,Bool.false_eq_true,if_false]
            exact absurd (hov.symm.trans h1) (by decide)
        | number s m i=>
          cases s with
          | false=>exact ⟨m,i,rfl⟩
          | true=>
            have:=(read_canon hcl hr).1
            unfold Ieee.Format.word at this
            rw [if_pos rfl,fd_sw] at this
            omega
       obtain ⟨m,i,hrd⟩:=hnum
       have HLT:=Lib.hid (And.intro hrd hov)
       clear hov hcmp hrd hnan h63 hcl horder hB
       go_enter Tryz.func140,Tryz.ntmps140
       go_wp2_with (first
        | (go_at_call 203;(with_reducible refine (g1 _).mono ?_);rintro e w' ⟨rfl,rfl⟩)
        | (go_at_call 204;(with_reducible refine (g2 _).mono ?_);rintro e w' ⟨rfl,rfl⟩))
       go_loopw [5,6] (fun pv kv wr=>∃ k:Nat,1≤k∧k≤7∧pv = .int .i64 ((10 ^ (k - 1):Nat):Int)∧kv = .int .i64 k∧Below w.heap.size w wr∧NoLit c k) (fun _ kv _=>7 - (intOf kv).toNat)
       case atStart=>exact ⟨1,by omega,by omega,rfl,rfl,Below.refl _ _,noLit_one c⟩
       case round=>
        obtain ⟨k,hk1,hk7,rfl,rfl,hbw,hnl⟩:=hrel
        have HB:=Lib.hid hbw
        have HN:=Lib.hid hnl
        clear hbw hnl
        by_cases hk6:k≤6
        · have ik6:(k:Int)≤6:=by omega
          have hwk:IntKind.i64.wrap ((k:Int)+1)=(k:Int)+1:=by rw [IntKind.wrap_i64];omega
          obtain ⟨P0,hP0⟩:∃ P0,P0=10 ^ (k - 1):=⟨_,rfl⟩
          obtain ⟨P,hP⟩:∃ P,P=10 ^ k:=⟨_,rfl⟩
          have hPP:P=10*P0:=by rw [hP,hP0,← Nat.pow_succ'];congr 1;omega
          have hPle:P≤1000000:=by
           rw [hP]
           have:(10:Nat) ^ k≤10 ^ 6:=Nat.pow_le_pow_right (by omega) hk6
           exact this
          have hPge:10≤P:=by rw [hP];exact pow10_ge hk1
          have hw10:IntKind.i64.wrap (10*(P0:Int))=(P:Int):=by rw [IntKind.wrap_i64];omega
          have hpf:floatOfInt .f64 (P:Int)=powT k:=by rw [hP];exact powT_int hk6
          have HP:=Lib.hid hP
          rw [← hP0]
          obtain ⟨r,c',e',hmul,hread⟩:=prod_gen HLT.out.1 HLT.out.2 hk1 hk6
          have hrn:nanW r=false:=by unfold nanW;rw [hread];rfl
          have hrun:=fun w t=>run_float_arith (P:=Tryz.prog) w .mul t .f64 _ _ _ hmul
          have hfl:=floor_or hread
          have hneg:(FloatKind.f64.decode r).neg=false:=by
           show (fd.read r).neg=false
           rw [hread];rfl
          obtain ⟨o,ho2⟩:∃ o,fd.order r w2e=some o:=⟨_,order_val big_is.choose_spec hrn (by decide)⟩
          have hmin:=fun ts t w=>min_run (P:=Tryz.prog) ts t r o ho2 hneg w
          have hM:∃ M:Nat,M≤2000000000000000∧nanW (if o = .lt then r else w2e)=false∧IsI (flW (if o = .lt then r else w2e)) M∧∀ n,LitIs c k n→n=M∨n=M+1:=by
           by_cases hol:o = .lt
           · rw [if_pos hol]
             rw [hol] at ho2
             have hV:=(whV_lt hread).1 ho2
             rcases hfl with ⟨_,h2⟩ | ⟨h2,_⟩
             · refine ⟨whV c' e',by omega,hrn,h2,fun n hl=>?_⟩
               obtain ⟨r',V',e1,_,e3,e4⟩:=hl.floor
               rw [hmul] at e1
               injection e1 with e1
               subst e1
               have:=isI_inj h2 e3
               omega
             · omega
           · rw [if_neg hol]
             have hfw:IsI (flW w2e) ((2000000000000000:Nat):Int):=by
              rcases floor_or w2e_read with ⟨_,h2⟩ | ⟨h2,_⟩
              · have:whV 8000000000000000 (-2)=2000000000000000:=by decide
                rw [this] at h2
                exact h2
              · have:whV 8000000000000000 (-2)=2000000000000000:=by decide
                omega
             refine ⟨2000000000000000,by omega,by decide,hfw,fun n hl=>?_⟩
             exfalso
             obtain ⟨r',V',e1,_,e3,e4⟩:=hl.floor
             rw [hmul] at e1
             injection e1 with e1
             subst e1
             have hn15:=hl.2.2.1
             have:whV c' e'<2000000000000000:=by
              rcases hfl with ⟨_,h2⟩ | ⟨_,h2,_⟩
              · have:=isI_inj h2 e3
                omega
              · exact absurd h2 (gt_not (by omega) e3)
             have:=(whV_lt hread).2 this
             rw [ho2] at this
             injection this with this
             exact hol this
          obtain ⟨M,hM2,hmn,hMI,hML⟩:=hM
          obtain ⟨Z,hZ⟩:∃ Z,Z=(if o = .lt then r else w2e):=⟨_,rfl⟩
          rw [← hZ] at hmn hMI
          have hmin':∀ ts t w,(Builtin.min_ ts t #[.float .f64 r,.float .f64 4835858800541171712]).run Tryz.prog w = .ok (.float .f64 Z) w:=fun ts t w=>by rw [hZ];exact hmin ts t w
          obtain ⟨N,hN⟩:∃ N,N=flW Z:=⟨_,rfl⟩
          rw [← hN] at hMI
          have HF:=Lib.hid (show ∀ W,Calls Tryz.prog 205 #[.float .f64 Z] W fun e w'=>e = .returned (.float .f64 N)∧W=w' from fun W=>by rw [hN];exact floor_any Z hmn W)
          have hcv:∀ w,(convert 225 3 (.float .f64 N)).run Tryz.prog w = .ok (.int .i64 (M:Int)) w:=fun w=>run_convert_float_int (P:=Tryz.prog) w 225 3 .f64 .i64 N M (by kernel_rfl) Tryz.underlying3 (by
           unfold floatToIntVal FloatKind.decode
           rw [show (FloatKind.f64.format.read N).toInt .zero=some (M:Int) from isI_toInt hMI]
           have e1:IntKind.i64.min = -9223372036854775808:=by decide
           have e2:IntKind.i64.max=9223372036854775807:=by decide
           simp only [e1,e2]
           rw [if_pos ⟨by omega,by omega⟩])
          have HML:=Lib.hid hML
          have hv1:IntKind.i64.wrap ((M:Int) - 2)=(M:Int) - 2:=by rw [IntKind.wrap_i64];omega
          have hv2:IntKind.i64.wrap ((M:Int)+2)=(M:Int)+2:=by rw [IntKind.wrap_i64];omega
          have hpow1:((10 ^ (k+1 - 1):Nat):Int)=(P:Int):=by rw [Nat.add_sub_cancel,hP]
          have HPW:=Lib.hid hpow1
          clear hP hP0 hPP hmul hread hrn hfl hneg ho2 hmin hmn hZ hN hMI hML hpow1
          go_wp2_with (go_at_call 205;(with_reducible refine (HF.out _).mono ?_);rintro e w' ⟨rfl,rfl⟩)
          go_loopw [8] (fun nv wq=>∃ n:Nat,M - 2≤n∧n≤M+3∧nv = .int .i64 n∧Below w.heap.size w wq∧∀ n':Nat,M - 2≤n'→n'<n→¬ LitIs c k n') (fun nv _=>M+3 - (intOf nv).toNat)
          case atStart=>exact ⟨M - 2,by omega,by omega,congrArg (Value.int .i64) (by omega),HB.out,fun n' h1 h2=>by omega⟩
          case round=>
           obtain ⟨n,hn1,hn2,rfl,hbq,htried⟩:=hrel
           have HQ:=Lib.hid hbq
           have HT:=Lib.hid htried
           clear hbq htried
           by_cases hn:n≤M+2
           · have jn:(n:Int)≤(M:Int)+2:=by omega
             have hwn:IntKind.i64.wrap ((n:Int)+1)=(n:Int)+1:=by rw [IntKind.wrap_i64];omega
             have hn16:n<10000000000000000:=by omega
             obtain ⟨q,hq2⟩:∃ q,q=n / P:=⟨_,rfl⟩
             obtain ⟨t,ht2⟩:∃ t,t=n % P:=⟨_,rfl⟩
             have hql:q≤n:=by rw [hq2];exact Nat.div_le_self _ _
             have t1:Int.tdiv (n:Int) (P:Int)=(q:Int):=by rw [hq2];exact (Int.ofNat_tdiv n P).symm
             have t2:Int.tmod (n:Int) (P:Int)=(t:Int):=by rw [ht2];exact (Int.ofNat_tmod n P).symm
             have t10:P≠0:=by omega
             have t11:¬ P=0:=by omega
             have t6:n / P=q:=hq2.symm
             have t7:n % P=t:=ht2.symm
             have t8:(n:Int) / (P:Int)=(q:Int):=by rw [hq2];exact (Int.natCast_ediv n P).symm
             have t9:(n:Int) % (P:Int)=(t:Int):=by rw [ht2];exact (Int.natCast_emod n P).symm
             have t3:IntKind.i64.wrap (q:Int)=(q:Int):=by rw [IntKind.wrap_i64];omega
             have t4:(P:Int)≠0:=by omega
             have t5:((P:Int)==0)=false:=beq_false_of_ne t4
             obtain ⟨X,hX⟩:∃ X,X=Lib.decDigits q:=⟨_,rfl⟩
             obtain ⟨Y,hY⟩:∃ Y,Y=dgw k n:=⟨_,rfl⟩
             obtain ⟨L,hL⟩:∃ L,L=litS n k:=⟨_,rfl⟩
             have hLX:L=X++46::Y:=by rw [hL,hX,hY,hq2,HP.out];rfl
             have hXl:X.length≤16:=by
              rw [hX,Lib.decDigits_length]
              have:Lib.nDigits q≤15+1:=nDigits_le (by omega)
              omega
             have hYl:Y.length≤6:=by rw [hY,dgw_length];exact hk6
             have hLl:L.length≤30:=by rw [hLX,List.length_append,List.length_cons];omega
             have HD1:=Lib.hid (show ∀ W,Calls Tryz.prog 206 #[.int .i64 (q:Int),.int .i64 1] W fun e w'=>e = .returned (.string (str X))∧∃ z,w'=W.drewN z from fun W=>by rw [hX];exact dec_one q (by omega) W)
             have HD2:=Lib.hid (show ∀ W,Calls Tryz.prog 206 #[.int .i64 (t:Int),.int .i64 (k:Int)] W fun e w'=>e = .returned (.string (str Y))∧∃ z,w'=W.drewN z from fun W=>by rw [hY,ht2,HP.out];exact dec_pad n k hk1 hk6 W)
             have hs1:∀ W,(Op.stringOp .add (str X) (str [46])).run Tryz.prog W = .ok (.string (str (X++[46]))) W:=fun W=>by
              rw [run_string_add_sum (P:=Tryz.prog) (w:=W) (str X) (str [46]) (by rw [str_size,str_size];simp;omega),str_append]
             have hs2:∀ W,(Op.stringOp .add (str (X++[46])) (str Y)).run Tryz.prog W = .ok (.string (str L)) W:=fun W=>by
              rw [run_string_add_sum (P:=Tryz.prog) (w:=W) (str (X++[46])) (str Y) (by rw [str_size,str_size];simp;omega),str_append,List.append_assoc,hLX];rfl
             have hstep:=fun (hno:¬ LitIs c k n)=>(fun n' h1 h2=>by
              rcases Nat.lt_or_ge n' n with h | h
              · exact HT.out n' h1 h
              · have:n'=n:=by omega
                subst this
                exact hno:∀ n':Nat,M - 2≤n'→n'<n+1→¬ LitIs c k n')
             obtain ⟨qv,hqv⟩:∃ qv,qv=rpB L:=⟨_,rfl⟩
             obtain ⟨qz,hqz⟩:∃ qz,qz=rpF L:=⟨_,rfl⟩
             have HPr:=Lib.hid (show ∀ W,Calls Tryz.prog 207 #[.string (str L)] W fun e w'=>e = .returned (.tuple #[.int .u64 (qv:Int),.int .i64 qz])∧W=w' from fun W=>by rw [hqv,hqz];exact qparse_any L (by omega) W)
             have hcp:=cand_parse n k hk1 hk6
             rw [← hL,← hqv,← hqz] at hcp
             rcases hcp with ⟨h15,hq1,hqz2⟩ | ⟨h15,hq1,hqz2⟩
             · by_cases hqc:qv=c
               · have HFound:=Lib.hid (show PSpec c L 0 from .inl ⟨rfl,k,n,⟨hk1,hk6,h15,by rw [← hq1,hqc]⟩,hL,HN.out⟩)
                 have hqb:((qv:Int)==c)=true:=beq_iff_eq.2 (by omega)
                 subst hqz2
                 clear hq2 ht2 hql hX hY hL hLX hXl hYl hLl hstep hqv hqz h15 hq1 hqc hn hn16
                 go_wp2_with fail
                 go_quiet (first
                  | (go_at_call 206;first | (with_reducible exact Calls.quiet_of (HD1.out _)) | (with_reducible exact Calls.quiet_of (HD2.out _))))
                 go_wp2_with (go_at_call 207
                              go_must ((with_reducible refine (HPr.out _).mono ?_)
                                       rintro e w3 ⟨rfl,hw3⟩
                                       have HQ2:=Lib.hid (show Below w.heap.size w w3 from by rw [← hw3];exact below_drewN HQ.out _)
                                       clear hw3))
                 go_ret2
                 exact ⟨L,0,rfl,HFound.out,HQ2.out⟩
               · have hqb:((qv:Int)==c)=false:=beq_false_of_ne (by omega)
                 have HJ:=Lib.hid (hstep (fun hl=>hqc (by rw [hq1];exact hl.2.2.2)))
                 subst hqz2
                 clear hq2 ht2 hql hX hY hL hLX hXl hYl hLl hstep hqv hqz h15 hq1 hqc hn hn16
                 go_wp2_with fail
                 go_quiet (first
                  | (go_at_call 206;first | (with_reducible exact Calls.quiet_of (HD1.out _)) | (with_reducible exact Calls.quiet_of (HD2.out _))))
                 go_wp2_with (go_at_call 207
                              go_must ((with_reducible refine (HPr.out _).mono ?_)
                                       rintro e w3 ⟨rfl,hw3⟩
                                       have HQ2:=Lib.hid (show Below w.heap.size w w3 from by rw [← hw3];exact below_drewN HQ.out _)
                                       clear hw3))
                 go_roundw
                 case rel=>exact ⟨n+1,by omega,by omega,by go_num,HQ2.out,HJ.out⟩
                 case measure=>simp [intOf];omega
             · have HJ:=Lib.hid (hstep (fun hl=>by have:=hl.2.2.1;omega))
               subst hqz2
               clear hq2 ht2 hql hX hY hL hLX hXl hYl hLl hstep hqv hqz h15 hq1 hn hn16
               go_wp2_with fail
               go_quiet (first
                | (go_at_call 206;first | (with_reducible exact Calls.quiet_of (HD1.out _)) | (with_reducible exact Calls.quiet_of (HD2.out _))))
               go_wp2_with (go_at_call 207
                            go_must ((with_reducible refine (HPr.out _).mono ?_)
                                     rintro e w3 ⟨rfl,hw3⟩
                                     have HQ2:=Lib.hid (show Below w.heap.size w w3 from by rw [← hw3];exact below_drewN HQ.out _)
                                     clear hw3))
               go_roundw
               case rel=>exact ⟨n+1,by omega,by omega,by go_num,HQ2.out,HJ.out⟩
               case measure=>simp [intOf];omega
           · have jn:¬ (n:Int)≤(M:Int)+2:=by omega
             have HNN:=Lib.hid (noLit_succ HN.out (fun n' hl=>by
              rcases HML.out n' hl with e | e
              · exact HT.out n' (by omega) (by omega) hl
              · exact HT.out n' (by omega) (by omega) hl))
             clear hn
             go_wp2_with fail
             go_roundw
             case rel=>exact ⟨k+1,by omega,by omega,by rw [HPW.out],by go_num,HQ.out,HNN.out⟩
             case measure=>simp [intOf];omega
        · have ik6:¬ (k:Int)≤6:=by omega
          have hk7':k=7:=by omega
          have HNL:=Lib.hid (noLit_all (hk7' ▸ HN.out))
          clear hk7'
          go_wp2_with fail
          go_ret2
          exact ⟨[],2,rfl,.inr ⟨rfl,rfl,HNL.out⟩,HB.out⟩
     · rw [hcmp] at hov
       have ho:FloatKind.f64.format.order c 4831355200913801216=some .eq:=hov
       have HNL:=Lib.hid (horder (by rw [hov];simp))
       clear hov hcmp horder hB hnan hcl h63
       go_enter Tryz.func140,Tryz.ntmps140
       go_wp2_with (first
        | (go_at_call 203;(with_reducible refine (g1 _).mono ?_);rintro e w' ⟨rfl,rfl⟩)
        | (go_at_call 204;(with_reducible refine (g2 _).mono ?_);rintro e w' ⟨rfl,rfl⟩))
       go_ret2
       exact ⟨[],2,rfl,.inr ⟨rfl,rfl,HNL.out⟩,Below.refl _ _⟩
     · rw [hcmp] at hov
       have ho:FloatKind.f64.format.order c 4831355200913801216=some .gt:=hov
       have HNL:=Lib.hid (horder (by rw [hov];simp))
       clear hov hcmp horder hB hnan hcl h63
       go_enter Tryz.func140,Tryz.ntmps140
       go_wp2_with (first
        | (go_at_call 203;(with_reducible refine (g1 _).mono ?_);rintro e w' ⟨rfl,rfl⟩)
        | (go_at_call 204;(with_reducible refine (g2 _).mono ?_);rintro e w' ⟨rfl,rfl⟩))
       go_ret2
       exact ⟨[],2,rfl,.inr ⟨rfl,rfl,HNL.out⟩,Below.refl _ _⟩
   · have hsh:(c:Int) / 9223372036854775808=1:=by omega
     have HNL:=Lib.hid (show ∀ k n,¬ LitIs c k n from fun k n h=>h63 h.bound.2.2)
     clear h63 hcl hnan
     go_enter Tryz.func140,Tryz.ntmps140
     go_wp2_with (first
      | (go_at_call 203;(with_reducible refine (g1 _).mono ?_);rintro e w' ⟨rfl,rfl⟩)
      | (go_at_call 204;(with_reducible refine (g2 _).mono ?_);rintro e w' ⟨rfl,rfl⟩))
     go_ret2
     exact ⟨[],2,rfl,.inr ⟨rfl,rfl,HNL.out⟩,Below.refl _ _⟩
end Go.Proofs.YtiacalnkmnckjaaGreatDoor
end
section
namespace Go.Proofs.YtiacalnkmnckjaaGreatDoor
open Go.RowKit Go.As Ieee
theorem PSpec.total (c:Nat):(∃ t,PSpec c t 0)∨PSpec c [] 2:=by
 have step:∀ k,NoLit c k→(∃ t,PSpec c t 0)∨NoLit c (k+1):=fun k h=>by
  by_cases g:∃ n,LitIs c k n
  · obtain ⟨n,hn⟩:=g
    exact .inl ⟨litS n k,.inl ⟨rfl,k,n,hn,rfl,h⟩⟩
  · exact .inr (noLit_succ h (fun n hn=>g ⟨n,hn⟩))
 have all:∀ k,(∃ t,PSpec c t 0)∨NoLit c (k+1):=fun k=>by
  induction k with
  | zero=>exact .inr (noLit_one c)
  | succ k ih=>exact ih.elim .inl (step (k+1))
 rcases all 6 with h | h
 · exact .inl h
 · exact .inr (.inr ⟨rfl,rfl,noLit_all h⟩)
theorem PSpec.len {c:Nat} {t:List UInt8} {z:Int} (h:PSpec c t z):t.length≤1048576:=by
 rcases h with ⟨_,k,n,h1,rfl,_⟩ | ⟨_,rfl,_⟩
 · exact lit_short (by have:=h1.2.2.1;omega) h1.2.1
 · simp
end Go.Proofs.YtiacalnkmnckjaaGreatDoor
end
section
namespace Go.Proofs.YtiacalnkmnckjaaGreatDoor
open Go.RowKit Go.As
theorem allN_run (l:List UInt8):(runL (fun c=>letterB c || digitB c) l 0=l.length)↔allN l=true:=by
 simp only [runL,allN,List.drop_zero,Nat.zero_add]
 constructor
 · intro h
   rw [List.all_eq_true]
   have hp:=List.takeWhile_prefix (l:=l) (fun c=>letterB (c.toNat:Int) || digitB (c.toNat:Int))
   have:=hp.eq_of_length h
   intro x hx
   rw [← this] at hx
   have:=List.all_takeWhile (p:=fun c:UInt8=>letterB (c.toNat:Int) || digitB (c.toNat:Int)) (l:=l)
   rw [List.all_eq_true] at this
   exact this x hx
 · intro h
   rw [List.all_eq_true] at h
   congr 1
   induction l with
   | nil=>rfl
   | cons c r ih=>
     have hc:(letterB (c.toNat:Int) || digitB (c.toNat:Int))=true:=h c (by simp)
     rw [List.takeWhile_cons,if_pos hc]
     rw [ih (fun x hx=>h x (by simp [hx]))]
set_option maxHeartbeats 800000 in
theorem name_any (l:List UInt8) (w:World) (hl:l.length≤maxLen):Calls Tryz.prog 120 #[.string (str l)] w fun e w'=>e = .returned (.bool (nameB l))∧w=w':=by
 have hrun:=run_any 190 (fun c=>letterB c || digitB c) l 0 w hl (by omega) (fun args w=>by simp [go_sem]) (fun c w=>name1_any c w)
 have HR:=Lib.hid hrun
 clear hrun
 unfold maxLen at hl
 by_cases h0:l.length<1
 · have:l=[]:=List.eq_nil_of_length_eq_zero (by omega)
   subst this
   go_enter Tryz.func120,Tryz.ntmps120
   go_wp2_with fail
   go_ret
   exact ⟨ret_bool (by simp [nameB]),rfl⟩
 have hne:l.isEmpty=false:=by cases l <;> simp_all
 have hne':(l==[])=false:=by cases l <;> simp_all
 by_cases h1:24<l.length
 · go_enter Tryz.func120,Tryz.ntmps120
   go_wp2_with fail
   go_ret
   exact ⟨ret_bool (by simp [nameB,h1]),rfl⟩
 have h00:0<l.length:=by omega
 cases hL:letterB (l[0].toNat:Int)
 · have HL:=Lib.hid hL
   clear hL
   go_enter Tryz.func120,Tryz.ntmps120
   go_wp2_with (go_at_call 159;refine (letter_any _ _).mono ?_;rintro e w' ⟨rfl,rfl⟩;have hL:=HL.out)
   go_ret
   exact ⟨ret_bool (by simp only [nameB,head_get h00,HL.out];simp),rfl⟩
 cases hw:wordB l
 all_goals
  have HL:=Lib.hid hL
  have HW:=Lib.hid hw
  clear hL hw
  go_enter Tryz.func120,Tryz.ntmps120
  go_wp2_with (first | (go_at_call 159;refine (letter_any _ _).mono ?_;rintro e w' ⟨rfl,rfl⟩;have hL:=HL.out) | (go_at_call 189;refine (word_any _ _).mono ?_;rintro e w1 ⟨rfl,rfl⟩;have hw:=HW.out) | (go_at_call 157;refine (HR.out).mono ?_;rintro e w1 ⟨rfl,rfl⟩))
 · go_ret
   refine ⟨ret_bool ?_,rfl⟩
   rw [Bool.eq_iff_iff]
   simp only [nameB,head_get h00,HL.out,HW.out,if_neg h0,if_neg h1]
   simp
   rw [← allN_run]
   omega
 · go_ret
   exact ⟨ret_bool (by simp only [nameB,head_get h00,HL.out,HW.out];simp),rfl⟩
end Go.Proofs.YtiacalnkmnckjaaGreatDoor
end
section
namespace Go.As
open Go Go.RowKit Go.WideShapes Go.ChangeShapes Go.ChangeAt
section
variable {H:Type} {enc:TypeId×Value→H} {P:Program}
theorem args_stay (hl:laidOutB P=true) {W W':World} (hb:Below W.heap.size W W') {sp:Nat→Bool}:∀ {ts:List TypeId} {vs:List Value} {ds:List (DataW H)} {ps:List MemPlace},
  (ts.all fun t=>P.readableRec t&&decide (t<P.types.size))=true→
  DataW.TrodAll enc P W 0 (fun _=>true) true ts vs ds ps→(∀ x∈ps,x.block<W.heap.size)→(∀ x∈ps,sp x.block=true)→DataW.TrodAll enc P W' 0 sp true ts vs ds ps
 | [],[],[],_,_,h,_,_=>h
 | t::ts,v::vs,d::ds,ps,hr,h,hlt,hs=>by
   obtain ⟨p,q,h1,h2,e⟩:=h
   rw [List.all_cons,Bool.and_eq_true,Bool.and_eq_true] at hr
   refine ⟨p,q,?_,?_,e⟩
   · exact WideElems.Trod_stays hl hr.1.1 (of_decide_eq_true hr.1.2) h1 (fun x hx=>hb.same (hlt x (by rw [e];exact List.mem_append_left _ hx))) (fun x hx=>hs x (by rw [e];exact List.mem_append_left _ hx))
   · exact args_stay hl hb hr.2 h2 (fun x hx=>hlt x (by rw [e];exact List.mem_append_right _ hx)) (fun x hx=>hs x (by rw [e];exact List.mem_append_right _ hx))
theorem law_post {f:Func} {s:ChangeSpec} {apart again:Bool} {W W':World} {args:Array Value} {ds gs:List (DataW H)} {before:List MemPlace} {T:TypeId}
  (hl:laidOutB P=true) (hr:(f.params.toList.all fun t=>P.readableRec t&&decide (t<P.types.size))=true)
  (hT:P.underlying T=some .bool) (hres:f.resultTypes=#[T]) (hv:s.vars=[])
  (hW:DataW.Whole enc P f.params.toList s.vars apart W args.toList ds gs before)
  (hs:(s.fn H (ds++gs)).results=[.lit (.bool true)]) (ha:(s.fn H (ds++gs)).args=ds) (hvs:(s.fn H (ds++gs)).vars=[])
  (hb:Below W.heap.size W W'):s.post enc P f apart true false again W args (.bool true) W':=by
 have hlt:∀ p∈before,p.block<W.heap.size:=fun p hp=>hW.lt p hp
 obtain ⟨p,q,hA,hV,rfl,hz,hn⟩:=id hW
 rw [hv] at hV
 obtain ⟨rfl,rfl⟩:=trodVars_none hV
 have hpl:∀ x∈p,x.block<W.heap.size:=fun x hx=>hlt x (by simpa using hx)
 have hok:∀ (j:Nat) (t:TypeId) (r:Value),f.resultTypes[j]?=some t→((Value.bool true).resultList f.resultTypes.size)[j]?=some r→Value.okWide P W' .any 0 t r:=by
  rw [hres]
  exact ok_one hres rfl (okWide_bool_mk hT true) |> fun h=>by simpa [hres] using h
 have hres':∀ (b:Nat) (sp:Nat→Bool) (hd:Bool),DataW.TrodAll enc P W' b sp hd f.resultTypes.toList ((Value.bool true).resultList f.resultTypes.size) (s.fn H (ds++[])).results []:=by
  intro b sp hd
  rw [hres,hs]
  exact trodAll_mk1 (shut_bool hT true)
 have hA1:∀ sp:Nat→Bool,(∀ x∈p,sp x.block=true)→DataW.TrodAll enc P W' 0 sp true f.params.toList args.toList (s.fn H (ds++[])).args p:=by
  intro sp hsp
  rw [ha];exact args_stay hl hb hr hA hpl hsp
 have hV1:∀ sp:Nat→Bool,DataW.TrodVars enc P W' sp s.vars (s.fn H (ds++[])).vars []:=by
  intro sp
  rw [hv,hvs];exact rfl
 refine ⟨ds,[],p++[],[],p,[],hW,hres' _ _ _,hA1 _ (fun x hx=>by simpa using hpl x hx),hV1 _,World.keptBut_mono (fun x hx=>⟨hx,Or.inr (by simpa using hx)⟩) (hb.frame (·∈p++[])),fun _=>?_⟩
 refine ⟨hok,_,_,([]++p)++[],⟨[]++p,[],trodAll_append (hA1 _ (fun _ _=>rfl)) (hres' _ _ _),hV1 _,rfl,?_,?_⟩,?_⟩
 · intro b off hp
   have hin:MemPlace.cell b off∈p++[]:=by simpa using hp
   rw [hb.frozen (hlt _ hin)]
   exact hz b off hin
 · intro h
   have:=hn h
   simpa using this
 · intro x hx _
   simpa using hx
end
end Go.As
end
