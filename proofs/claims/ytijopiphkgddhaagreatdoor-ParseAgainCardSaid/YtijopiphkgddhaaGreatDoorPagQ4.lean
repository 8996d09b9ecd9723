/- Texts of this proof, one behind the other. Conditions: those in each theorem. -/
import Derived.Test.YtijopiphkgddhaaGreatDoorPagQ1
import Derived.Test.YtijopiphkgddhaaGreatDoorPagQ3
import Derived.Test.YtijopiphkgddhaaGreatDoorPagQ2
import Derived.OpenShut
import Derived.Carry
import Derived.Deep.Slices
set_option linter.unusedVariables false
set_option linter.unusedSimpArgs false
namespace Go.Proofs.YtijopiphkgddhaaGreatDoor
open Go.RowKit Go.As
section
theorem kof (a:Nat) (w:World):Calls Tryz.prog 125 #[.int .u64 (a:Int)] w fun e w'=>e = .returned (.float .f64 a)∧w=w':=by
 have:=aJj (a:Int) w
 rw [Int.toNat_natCast] at this
 exact this
set_option maxRecDepth 100000 in
set_option maxHeartbeats 3200000 in
theorem aKw (b:Nat) (hb:b<18446744073709551616) (w:World) (ht:Tab w):
  Calls Tryz.prog 101 #[.int .u64 (b:Int)] w fun e w'=>∃ s z,e = .returned (.tuple #[.string (str s),.int .i64 z])∧PSpec (toN b) s z∧Below w.heap.size w w':=by
 obtain ⟨c,hc⟩:∃ c,c=toN b:=⟨_,rfl⟩
 have hcl:c<18446744073709551616:=by
  rw [hc];unfold toN;split <;> omega
 have g1:=fun W=>aUw (a:=b) (r:=c) W hc.symm
 have g2:=fun W=>kof c W
 have HPS:=Lib.hid hc
 rw [← hc]
 clear hc hb
 have hord:=tX c
 cases hnan:fM c with
 | true=>
   have HNL:=Lib.hid (show ∀ k n,¬ LitIs c k n from fun k n h=>by have:=h.bound.2.1;rw [hnan] at this;cases this)
   rw [hnan,if_pos rfl] at hord
   clear hnan hcl
   go_enter Tryz.func101,Tryz.ntmps101
   go_wp2_with (first
    | (go_at_call 120;(with_reducible refine (g1 _).mono ?_);rintro e w' ⟨rfl,rfl⟩)
    | (go_at_call 125;(with_reducible refine (g2 _).mono ?_);rintro e w' ⟨rfl,rfl⟩))
   go_ret2
   exact ⟨[],2,rfl,.inr ⟨rfl,rfl,HNL.out⟩,Below.refl _ _⟩
 | false=>
   rw [hnan,if_neg (by decide)] at hord
   by_cases h63:c<9223372036854775808
   · have i63:¬ (9223372036854775808:Int)≤c:=by omega
     have horder:=fun (h:fd.order c w15≠some .lt)=>(fun k n hl=>h (LitIs.bound hl).1:∀ k n,¬ LitIs c k n)
     obtain ⟨B,hB⟩:=aO4
     have hov:=aEb hB (x:=c) (y:=w15) hnan (by decide)
     rcases hcmp:compare (val B (fd.read c)) (val B (fd.read w15)) with _ | _ | _
     ·
      rw [hcmp] at hov
      have ho:FloatKind.f64.format.order c 4831355200913801216=some .lt:=hov
      have hnum:∃ m i,fd.read c = .number false m i:=by
       cases hr:fd.read c with
       | nan s p=>unfold fM at hnan;rw [hr] at hnan;cases hnan
       | infinity s=>
         cases s with
         | true=>
           have h1:=aPh hcl hr
           rw [kR] at h1
           unfold Ieee.Format.word at h1
           rw [if_pos rfl,mQ] at h1
           omega
         | false=>
           have h1:fd.order c w15=some .gt:=by
            unfold Ieee.Format.order
            rw [hr,rC]
            simp only [Ieee.Datum.order,bN,if_false]
           exact absurd (hov.symm.trans h1) (by decide)
       | number s m i=>
         cases s with
         | false=>exact ⟨m,i,rfl⟩
         | true=>
           have:=(aCx hcl hr).1
           unfold Ieee.Format.word at this
           rw [if_pos rfl,mQ] at this
           omega
      obtain ⟨m,i,hrd⟩:=hnum
      have HLT:=Lib.hid (And.intro hrd hov)
      have I63:=Lib.hid i63
      clear hov hcmp hrd hnan h63 hcl horder hB
      go_enter Tryz.func101,Tryz.ntmps101
      go_upto_region 3 with (first
       | (go_at_call 120;(with_reducible refine (g1 _).mono ?_);rintro e w' ⟨rfl,rfl⟩)
       | (go_at_call 125;(with_reducible refine (g2 _).mono ?_);rintro e w' ⟨rfl,rfl⟩))
      go_cut [26] (fun sv wx=>sv = .bool false∧wx=w)
      case first=>
       go_wp2_with fail
       go_meet
       case rel=>exact ⟨by rw [decide_eq_false (by have:=I63.out;omega)],rfl⟩
      case rest=>
       obtain ⟨rfl,hwx⟩:=hcut
       have hwx':=hwx.symm
       subst hwx'
       clear hwx i63
       go_wp2_with fail
       go_loopw [5] (fun kv wr=>∃ k:Nat,1≤k∧k≤7∧kv = .int .i64 k∧Below w.heap.size w wr∧oL c k) (fun kv _=>7 - (intOf kv).toNat)
       case atStart=>exact ⟨1,by omega,by omega,rfl,Below.refl _ _,aEu c⟩
       case round=>
        obtain ⟨k,hk1,hk7,rfl,hbw,hnl⟩:=hrel
        have HB:=Lib.hid hbw
        have HN:=Lib.hid hnl
        clear hbw hnl
        by_cases hk6:k≤6
        · have ik6:(k:Int)≤6:=by omega
          have hwk:IntKind.i64.wrap ((k:Int)+1)=(k:Int)+1:=by rw [IntKind.wrap_i64];omega
          obtain ⟨r,c',e',lD,hread⟩:=aQq HLT.out.1 HLT.out.2 hk1 hk6
          have hrn:fM r=false:=by unfold fM;rw [hread];rfl
          have hrun:=fun w t=>run_float_arith (P:=Tryz.prog) w .mul t .f64 _ _ _ lD
          have hfl:=uX hread
          have hflo:=aNn r hrn
          obtain ⟨N,hN⟩:∃ N,N=flW r:=⟨_,rfl⟩
          rw [← hN] at hfl
          have HF:=Lib.hid (show ∀ W,Calls Tryz.prog 126 #[.float .f64 r] W fun e w'=>e = .returned (.float .f64 N)∧W=w' from fun W=>by rw [hN];exact hflo W)
          have HMU:=Lib.hid lD
          by_cases hgt:fd.order N w15=some .gt
          · have hog:FloatKind.f64.format.order N 4831355200913801216=some .gt:=hgt
            have HNL:=Lib.hid (aIq hk1 lD HN.out (fun V hV hI=>aUj hV (by rw [hN];exact hI) hgt))
            clear lD hread hrn hfl hflo hN hgt
            go_wp2_with (first
             | (go_at_call 109;refine (oD k (by omega) _).mono ?_;rintro e w' ⟨rfl,rfl⟩)
             | (go_at_call 126;(with_reducible refine (HF.out _).mono ?_);rintro e w' ⟨rfl,rfl⟩))
            go_ret2
            exact ⟨[],2,rfl,.inr ⟨rfl,rfl,HNL.out⟩,HB.out⟩
          · obtain ⟨V,hV53,hI⟩:∃ V:Nat,V<9007199254740992∧IsI N V:=by
             rcases hfl with ⟨h1,h2⟩ | ⟨_,h2,_⟩
             · exact ⟨_,h1,h2⟩
             · exact absurd h2 hgt
            have hV15:V≤1000000000000000:=by
             rw [rS hI zN] at hgt
             rcases aY 1000000000000000 V with h | h
             · exfalso
               apply hgt
               rw [Int.compare_eq_gt.2 (by omega)]
             · exact h
            have hon:∃ o,FloatKind.f64.format.order N 4831355200913801216=some o∧o ≠ .gt:=⟨_,rS hI zN,fun e=>hgt (by rw [rS hI zN,e])⟩
            obtain ⟨o,hoo,hog⟩:=hon
            have hob:((some o:Option Ordering)==some .gt)=false:=by cases o <;> first | rfl | exact absurd rfl hog
            have hcv:∀ w,(convert 154 3 (.float .f64 N)).run Tryz.prog w = .ok (.int .i64 (V:Int)) w:=fun w=>run_convert_float_int (P:=Tryz.prog) w 154 3 .f64 .i64 N V (by kernel_rfl) Tryz.underlying3 (by
             unfold floatToIntVal FloatKind.decode
             rw [show (FloatKind.f64.format.read N).toInt .zero=some (V:Int) from xC hI]
             have e1:IntKind.i64.min = -9223372036854775808:=by decide
             have e2:IntKind.i64.max=9223372036854775807:=by decide
             simp only [e1,e2]
             rw [if_pos ⟨by omega,by omega⟩])
            have HFL:=Lib.hid (show ∀ n,LitIs c k n→n=V∨n=V+1 from fun n hl=>by
             obtain ⟨r',V',e1,_,e3,e4⟩:=hl.floor
             rw [HMU.out] at e1
             injection e1 with e1
             subst e1
             rw [← hN] at e3
             have:=aTm hI e3
             omega)
            have hv1:IntKind.i64.wrap ((V:Int) - 1)=(V:Int) - 1:=by rw [IntKind.wrap_i64];omega
            have hv2:IntKind.i64.wrap ((V:Int)+1)=(V:Int)+1:=by rw [IntKind.wrap_i64];omega
            have harr:=aQg V
            clear lD hread hrn hfl hflo hN hgt hI hog hV53
            go_wp2_with (first
             | (go_at_call 109;refine (oD k (by omega) _).mono ?_;rintro e w' ⟨rfl,rfl⟩)
             | (go_at_call 126;(with_reducible refine (HF.out _).mono ?_);rintro e w' ⟨rfl,rfl⟩))
            go_loopw [47] (fun xv wq=>∃ j:Nat,j≤3∧xv = .int .i64 j∧Below w.heap.size w wq∧∀ i:Nat,i<j→∀ m:Nat,(m:Int)=(V:Int) - 1+(i:Int)→¬ LitIs c k m) (fun xv _=>3 - (intOf xv).toNat)
            case atStart=>exact ⟨0,by omega,rfl,HB.out,fun i hi=>by omega⟩
            case round=>
             obtain ⟨j,hj3,rfl,hbq,htried⟩:=hrel
             have HQ:=Lib.hid hbq
             have HT:=Lib.hid htried
             clear hbq htried
             by_cases hj:j<3
             · have ij:(j:Int)<3:=by omega
               have hat:=aU7 V j hj
               have hwj:IntKind.i64.wrap ((j:Int)+1)=(j:Int)+1:=by rw [IntKind.wrap_i64];omega
               by_cases hneg:(V:Int) - 1+(j:Int)<0
               · have HJ:=Lib.hid (show ∀ i:Nat,i<j+1→∀ m:Nat,(m:Int)=(V:Int) - 1+(i:Int)→¬ LitIs c k m from fun i hi m hm=>by omega)
                 go_wp2_with fail
                 go_roundw
                 case rel=>exact ⟨j+1,by omega,by go_num,HQ.out,HJ.out⟩
                 case measure=>simp [intOf];omega
               · obtain ⟨m,hm⟩:∃ m:Nat,(m:Int)=(V:Int) - 1+(j:Int):=⟨((V:Int) - 1+(j:Int)).toNat,by omega⟩
                 rw [← hm] at hat hneg
                 have hm16:m<10000000000000000:=by omega
                 have hls:=aD2 hm16 hk6
                 have hstep:=fun (hno:¬ LitIs c k m)=>(fun i hi m' hm'=>by
                  rcases aY i j with h | h
                  · exact HT.out i h m' hm'
                  · have:i=j:=by omega
                    subst this
                    have:m'=m:=by omega
                    subst this
                    exact hno:∀ i:Nat,i<j+1→∀ m':Nat,(m':Int)=(V:Int) - 1+(i:Int)→¬ LitIs c k m')
                 obtain ⟨L,hL⟩:∃ L,L=fE m k:=⟨_,rfl⟩
                 have HLt:=Lib.hid (show ∀ W,Tab W→Calls Tryz.prog 127 #[.int .i64 (m:Int),.int .i64 (k:Int)] W fun e w'=>e = .returned (.string (str L))∧Below W.heap.size W w' from fun W hW=>by rw [hL];exact aIz m k hm16 hk1 hk6 W hW)
                 have HTB:=Lib.hid (ht.below HQ.out)
                 obtain ⟨qv,hqv⟩:∃ qv,qv=rpB L:=⟨_,rfl⟩
                 obtain ⟨qz,hqz⟩:∃ qz,qz=rpF L:=⟨_,rfl⟩
                 have HPr:=Lib.hid (show ∀ W,Calls Tryz.prog 89 #[.string (str L)] W fun e w'=>e = .returned (.tuple #[.int .u64 (qv:Int),.int .i64 qz])∧Below W.heap.size W w' from fun W=>by rw [hqv,hqz];exact aBo L (by rw [hL];exact hls) W)
                 have hnn:¬ (m:Int)<0:=by omega
                 have hcp:=aMd m k hk1 hk6
                 rw [← hL,← hqv,← hqz] at hcp
                 rcases hcp with ⟨h15,hq1,hq2⟩ | ⟨h15,hq1,hq2⟩
                 · by_cases hqc:qv=c
                   · have HFound:=Lib.hid (show PSpec c L 0 from .inl ⟨rfl,k,m,⟨hk1,hk6,h15,by rw [← hq1,hqc]⟩,hL,HN.out⟩)
                     have hqb:((qv:Int)==c)=true:=beq_iff_eq.2 (by omega)
                     subst hq2
                     clear hm hm16 hls hstep hL hqv hqz hneg h15 hq1 hqc
                     go_wp2_with (first
                      | (go_at_call 127
                         go_must ((with_reducible refine (HLt.out _ HTB.out).mono ?_)
                                  rintro e w2 ⟨rfl,hb2⟩
                                  have HQ1:=Lib.hid (dL HQ.out hb2)
                                  clear hb2))
                      | (go_at_call 89
                         go_must ((with_reducible refine (HPr.out _).mono ?_)
                                  rintro e w3 ⟨rfl,hb3⟩
                                  have HQ2:=Lib.hid (dL HQ1.out hb3)
                                  clear hb3)))
                     go_ret2
                     exact ⟨L,0,rfl,HFound.out,HQ2.out⟩
                   · have hqb:((qv:Int)==c)=false:=beq_false_of_ne (by omega)
                     have HJ:=Lib.hid (hstep (fun hl=>hqc (by rw [hq1];exact hl.2.2.2)))
                     subst hq2
                     clear hm hm16 hls hstep hL hqv hqz hneg h15 hq1 hqc
                     go_wp2_with (first
                      | (go_at_call 127
                         go_must ((with_reducible refine (HLt.out _ HTB.out).mono ?_)
                                  rintro e w2 ⟨rfl,hb2⟩
                                  have HQ1:=Lib.hid (dL HQ.out hb2)
                                  clear hb2))
                      | (go_at_call 89
                         go_must ((with_reducible refine (HPr.out _).mono ?_)
                                  rintro e w3 ⟨rfl,hb3⟩
                                  have HQ2:=Lib.hid (dL HQ1.out hb3)
                                  clear hb3)))
                     go_roundw
                     case rel=>exact ⟨j+1,by omega,by go_num,HQ2.out,HJ.out⟩
                     case measure=>simp [intOf];omega
                 · have HJ:=Lib.hid (hstep (fun hl=>by have:=hl.2.2.1;omega))
                   subst hq2
                   clear hm hm16 hls hstep hL hqv hqz hneg h15 hq1
                   go_wp2_with (first
                    | (go_at_call 127
                       go_must ((with_reducible refine (HLt.out _ HTB.out).mono ?_)
                                rintro e w2 ⟨rfl,hb2⟩
                                have HQ1:=Lib.hid (dL HQ.out hb2)
                                clear hb2))
                    | (go_at_call 89
                       go_must ((with_reducible refine (HPr.out _).mono ?_)
                                rintro e w3 ⟨rfl,hb3⟩
                                have HQ2:=Lib.hid (dL HQ1.out hb3)
                                clear hb3)))
                   go_roundw
                   case rel=>exact ⟨j+1,by omega,by go_num,HQ2.out,HJ.out⟩
                   case measure=>simp [intOf];omega
             · have ij:¬ (j:Int)<3:=by omega
               have hj':j=3:=by omega
               have HNN:=Lib.hid (aB1 HN.out (fun n hl=>by
                rcases HFL.out n hl with e | e
                · exact HT.out 1 (by omega) n (by omega) hl
                · exact HT.out 2 (by omega) n (by omega) hl))
               clear hj'
               go_wp2_with fail
               go_roundw
               case rel=>exact ⟨k+1,by omega,by omega,by go_num,HQ.out,HNN.out⟩
               case measure=>simp [intOf];omega
        · have ik6:¬ (k:Int)≤6:=by omega
          have hk7':k=7:=by omega
          have HNL:=Lib.hid (aEc (hk7' ▸ HN.out))
          clear hk7'
          go_wp2_with fail
          go_ret2
          exact ⟨[],2,rfl,.inr ⟨rfl,rfl,HNL.out⟩,HB.out⟩
     · rw [hcmp] at hov
       have ho:FloatKind.f64.format.order c 4831355200913801216=some .eq:=hov
       have HNL:=Lib.hid (horder (by rw [hov];simp))
       clear hov hcmp horder hB hnan hcl h63
       go_enter Tryz.func101,Tryz.ntmps101
       go_wp2_with (first
        | (go_at_call 120;(with_reducible refine (g1 _).mono ?_);rintro e w' ⟨rfl,rfl⟩)
        | (go_at_call 125;(with_reducible refine (g2 _).mono ?_);rintro e w' ⟨rfl,rfl⟩))
       go_ret2
       exact ⟨[],2,rfl,.inr ⟨rfl,rfl,HNL.out⟩,Below.refl _ _⟩
     · rw [hcmp] at hov
       have ho:FloatKind.f64.format.order c 4831355200913801216=some .gt:=hov
       have HNL:=Lib.hid (horder (by rw [hov];simp))
       clear hov hcmp horder hB hnan hcl h63
       go_enter Tryz.func101,Tryz.ntmps101
       go_wp2_with (first
        | (go_at_call 120;(with_reducible refine (g1 _).mono ?_);rintro e w' ⟨rfl,rfl⟩)
        | (go_at_call 125;(with_reducible refine (g2 _).mono ?_);rintro e w' ⟨rfl,rfl⟩))
       go_ret2
       exact ⟨[],2,rfl,.inr ⟨rfl,rfl,HNL.out⟩,Below.refl _ _⟩
   · have i63:(9223372036854775808:Int)≤c:=by omega
     have HNL:=Lib.hid (show ∀ k n,¬ LitIs c k n from fun k n h=>h63 h.bound.2.2)
     clear h63 hcl hnan
     go_enter Tryz.func101,Tryz.ntmps101
     go_wp2_with (first
      | (go_at_call 120;(with_reducible refine (g1 _).mono ?_);rintro e w' ⟨rfl,rfl⟩)
      | (go_at_call 125;(with_reducible refine (g2 _).mono ?_);rintro e w' ⟨rfl,rfl⟩))
     go_ret2
     exact ⟨[],2,rfl,.inr ⟨rfl,rfl,HNL.out⟩,Below.refl _ _⟩
end
end Go.Proofs.YtijopiphkgddhaaGreatDoor
section
namespace Go.Proofs.YtijopiphkgddhaaGreatDoor
open Go.RowKit Go.As Ieee
theorem PSpec.total (c:Nat):(∃ t,PSpec c t 0)∨PSpec c [] 2:=by
 have step:∀ k,oL c k→(∃ t,PSpec c t 0)∨oL c (k+1):=fun k h=>by
  by_cases g:∃ n,LitIs c k n
  · obtain ⟨n,hn⟩:=g
    exact .inl ⟨fE n k,.inl ⟨rfl,k,n,hn,rfl,h⟩⟩
  · exact .inr (aB1 h (fun n hn=>g ⟨n,hn⟩))
 have all:∀ k,(∃ t,PSpec c t 0)∨oL c (k+1):=fun k=>by
  induction k with
  | zero=>exact .inr (aEu c)
  | succ k ih=>exact ih.elim .inl (step (k+1))
 rcases all 6 with h | h
 · exact .inl h
 · exact .inr (.inr ⟨rfl,rfl,aEc h⟩)
theorem PSpec.len {c:Nat} {t:List UInt8} {z:Int} (h:PSpec c t z):t.length≤1048576:=by
 rcases h with ⟨_,k,n,h1,rfl,_⟩ | ⟨_,rfl,_⟩
 · exact aD2 (by have:=h1.2.2.1;omega) h1.2.1
 · simp
end Go.Proofs.YtijopiphkgddhaaGreatDoor
end
namespace Go.Proofs.YtijopiphkgddhaaGreatDoor
open Go.RowKit Go.As
section
theorem aHb (n k:Nat):∃ d r,fE n k=d::r∧48≤d.toNat∧d.toNat≤57:=by
 unfold fE
 have h1:=iH (n / 10 ^ k)
 have h2:=fW (n / 10 ^ k)
 cases h:Lib.decDigits (n / 10 ^ k) with
 | nil=>exact absurd h h1
 | cons d r=>
   rw [h,List.all_cons,aI] at h2
   have:=j6 h2.1
   exact ⟨d,r++46::dgw k n,rfl,this.1,this.2⟩
theorem PSpec.lit {c:Nat} {s:List UInt8} (h:PSpec c s 0):∃ k n,LitIs c k n∧s=fE n k:=by
 rcases h with ⟨_,k,n,h1,h2,_⟩ | ⟨h,_⟩
 · exact ⟨k,n,h1,h2⟩
 · cases h
theorem aVb {s:List UInt8} (h:lE s=true):∃ x t,rpB s=x∧rpF s=0∧x<18446744073709551616∧PSpec (toN x) t 0∧rpB t=x∧rpF t=0∧t.length≤s.length:=by
 obtain ⟨n0,k0,hs,hn,h1,h6,hx⟩:=aUf h
 have hf:rpF s=0:=by unfold rpF;rw [h,if_pos rfl]
 obtain ⟨x,hxx⟩:∃ x,x=aAw n0 k0:=⟨_,rfl⟩
 rw [← hxx] at hx
 have hL:LitIs x k0 n0:=⟨h1,h6,hn,hxx.symm⟩
 have hb:=hL.bound
 have hto:toN x=x:=aM6 hb.2.1
 rcases PSpec.total x with ⟨t,hp⟩ | hp
 · have hp':=hp
   rcases hp' with ⟨_,k,n,hl,ht,hno⟩ | ⟨e,_⟩
   · have hkk:k≤k0:=by
      rcases aY k0 k with c | c
      · exact absurd hL (hno k0 n0 c)
      · exact c
     have hpar:=sG hl.2.2.1 hl.1 hl.2.1
     rw [← ht,hl.2.2.2] at hpar
     have hne:x≠9221120237041090560:=by
      intro e
      have:=hb.2.1
      rw [e,aT8] at this
      cases this
     have hni:x≠9218868437227405312:=by
      intro e
      have:=hb.1
      rw [e] at this
      revert this
      decide
     have hnm:x≠18442240474082181120:=by
      intro e
      have:=hb.2.2
      omega
     have hlen:t.length≤s.length:=by
      rw [ht,hs,k5,k5]
      rcases aY k k0 with c | c
      · have ha:=hl.across hL c
        have:n0 / 10 ^ k0=n / 10 ^ k:=by
         rw [← ha,show k0=(k0 - k)+k by omega,aW,show k0 - k+k - k=k0 - k by omega,Nat.mul_comm n,Nat.mul_div_mul_left _ _ (Nat.pos_of_ne_zero (by simp))]
        rw [this]
        omega
      · have:k=k0:=by omega
        subst this
        have:=hl.uniq hL
        subst this
        exact aH _
     refine ⟨x,t,hx,hf,by omega,by rw [hto];exact hp,hpar.1,hpar.2,hlen⟩
   · cases e
 · rcases hp with ⟨e,_⟩ | ⟨_,_,hno⟩
   · cases e
   · exact absurd hL (hno k0 n0)
theorem aR4 {a:Nat} {t:List UInt8} (h:PSpec (toN a) t 0):rpB t=toN a∧rpF t=0:=by
 obtain ⟨k,n,hl,ht⟩:=h.lit
 have hpar:=sG hl.2.2.1 hl.1 hl.2.1
 rw [← ht,hl.2.2.2] at hpar
 exact hpar
end
end Go.Proofs.YtijopiphkgddhaaGreatDoor
section
namespace Go.As
open Go Go.RowKit Go.WideShapes Go.ChangeShapes Go.ChangeAt
section
variable {H:Type} {enc:TypeId×Value→H} {P:Program}
theorem aD4 (hl:laidOutB P=true) {W W':World} (hb:Below W.heap.size W W') {sp:Nat→Bool}:∀ {ts:List TypeId} {vs:List Value} {ds:List (DataW H)} {ps:List MemPlace},
  (ts.all fun t=>P.readableRec t&&decide (t<P.types.size))=true→
  DataW.TrodAll enc P W 0 (fun _=>true) true ts vs ds ps→(∀ x∈ps,x.block<W.heap.size)→(∀ x∈ps,sp x.block=true)→DataW.TrodAll enc P W' 0 sp true ts vs ds ps
 | [],[],[],_,_,h,_,_=>h
 | t::ts,v::vs,d::ds,ps,hr,h,hlt,hs=>by
   obtain ⟨p,q,h1,h2,e⟩:=h
   rw [List.all_cons,aI,aI] at hr
   refine ⟨p,q,?_,?_,e⟩
   · exact WideElems.Trod_stays hl hr.1.1 (of_decide_eq_true hr.1.2) h1 (fun x hx=>hb.same (hlt x (by rw [e];exact List.mem_append_left _ hx))) (fun x hx=>hs x (by rw [e];exact List.mem_append_left _ hx))
   · exact aD4 hl hb hr.2 h2 (fun x hx=>hlt x (by rw [e];exact List.mem_append_right _ hx)) (fun x hx=>hs x (by rw [e];exact List.mem_append_right _ hx))
theorem aPw {f:Func} {s:ChangeSpec} {apart aR4:Bool} {W W':World} {args:Array Value} {ds gs:List (DataW H)} {before:List MemPlace} {T:TypeId}
  (hl:laidOutB P=true) (hr:(f.params.toList.all fun t=>P.readableRec t&&decide (t<P.types.size))=true)
  (hT:P.underlying T=some .bool) (hres:f.resultTypes=#[T]) (hv:s.vars=[])
  (hW:DataW.Whole enc P f.params.toList s.vars apart W args.toList ds gs before)
  (hs:(s.fn H (ds++gs)).results=[.lit (.bool true)]) (ha:(s.fn H (ds++gs)).args=ds) (hvs:(s.fn H (ds++gs)).vars=[])
  (hb:Below W.heap.size W W'):s.post enc P f apart true false aR4 W args (.bool true) W':=by
 have hlt:∀ p∈before,p.block<W.heap.size:=fun p hp=>hW.lt p hp
 obtain ⟨p,q,hA,hV,rfl,hz,hn⟩:=id hW
 rw [hv] at hV
 obtain ⟨rfl,rfl⟩:=trodVars_none hV
 have hpl:∀ x∈p,x.block<W.heap.size:=fun x hx=>hlt x (by simpa using hx)
 have hok:∀ (j:Nat) (t:TypeId) (r:Value),f.resultTypes[j]?=some t→((Value.bool true).resultList f.resultTypes.size)[j]?=some r→Value.okWide P W' .any 0 t r:=by
  rw [hres]
  exact ok_one hres rfl (okWide_bool_mk hT true) |> fun h=>by simpa [hres] using h
 have hres':∀ (b:Nat) (sp:Nat→Bool) (hd:Bool),DataW.TrodAll enc P W' b sp hd f.resultTypes.toList ((Value.bool true).resultList f.resultTypes.size) (s.fn H (ds++[])).results []:=by
  intro b sp hd
  rw [hres,hs]
  exact trodAll_mk1 (shut_bool hT true)
 have hA1:∀ sp:Nat→Bool,(∀ x∈p,sp x.block=true)→DataW.TrodAll enc P W' 0 sp true f.params.toList args.toList (s.fn H (ds++[])).args p:=by
  intro sp hsp
  rw [ha];exact aD4 hl hb hr hA hpl hsp
 have hV1:∀ sp:Nat→Bool,DataW.TrodVars enc P W' sp s.vars (s.fn H (ds++[])).vars []:=by
  intro sp
  rw [hv,hvs];exact rfl
 refine ⟨ds,[],p++[],[],p,[],hW,hres' _ _ _,hA1 _ (fun x hx=>by simpa using hpl x hx),hV1 _,World.keptBut_mono (fun x hx=>⟨hx,Or.inr (by simpa using hx)⟩) (hb.frame (·∈p++[])),fun _=>?_⟩
 refine ⟨hok,_,_,([]++p)++[],⟨[]++p,[],trodAll_append (hA1 _ (fun _ _=>rfl)) (hres' _ _ _),hV1 _,rfl,?_,?_⟩,?_⟩
 · intro b off hp
   have hin:MemPlace.cell b off∈p++[]:=by simpa using hp
   rw [hb.frozen (hlt _ hin)]
   exact hz b off hin
 · intro h
   have:=hn h
   simpa using this
 · intro x hx _
   simpa using hx
end
end Go.As
end
