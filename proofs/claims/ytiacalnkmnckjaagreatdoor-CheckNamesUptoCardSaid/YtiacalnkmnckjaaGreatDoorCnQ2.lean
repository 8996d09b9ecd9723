/- Texts of this proof, one behind the other. Conditions: those in each theorem. -/
import Derived.Test.YtiacalnkmnckjaaGreatDoorCnQ1
import Derived.Lib.IndexMore
import Derived.Deep.CutBlock
import Derived.Deep.DeepCutAuto
import Derived.Test.YtiacalnkmnckjaaGreatDoorRows
import Derived.Handy
import Derived.WalkLawsBesides
import Derived.Shelf.Strings.Builder1
import Derived.Shelf.Strings.Builder2
import Derived.Shelf.Strings.BuilderF
import Derived.Shelf.Strings.BuilderK
import Derived.Shelf.Strings.Builder2Cap
import Derived.Shelf.Strconv.Itoa0
import Derived.Shelf.Strconv.Itoa1
import Derived.Shelf.LaysM
import Derived.Shelf.Strconv.Itoa2
import Derived.Shelf.Strconv.Itoa3
import Derived.Shelf.Strconv.Itoa4
import Derived.Shelf.Strings.Search1
import Derived.Shelf.Strings.Search2
import Derived.Shelf.Strings.Cut
import Derived.Shelf.Strings.Shaped
import Derived.Shelf.Strings.Prefix
import Derived.Shelf.Bits.Mul64
import Derived.Shelf.Strings.Repeat
import Derived.Shelf.Strings.BuilderCap
import Derived.Test.YtiacalnkmnckjaaGreatDoorProg
import Derived.Sort.Grow
import Derived.Lib.ItoaLen
set_option linter.unusedVariables false
set_option linter.unusedSimpArgs false
namespace Go.Proofs.YtiacalnkmnckjaaGreatDoor
open Go.RowKit Go.As
section
theorem run_idx0 (s:List UInt8) (j:Nat) (hj:j<s.length) (W:World):(Instr.index 9 (.string (str s)) (.int .i64 (j:Int))).run Tryz.prog W = .ok (.int .u8 (s[j].toNat:Nat)) W:=by
 rw [run_index_string W 9 (str s) .i64 _ Tryz.underlying9,dif_pos ⟨by omega,by rw [str_size];omega⟩]
 simp only [Int.toNat_natCast,str_get]
set_option maxRecDepth 100000 in
theorem run_buildPow (W:World):(Instr.build 269 #[(0,.float .f64 4607182418800017408),(1,.float .f64 4621819117588971520),(2,.float .f64 4636737291354636288),(3,.float .f64 4652007308841189376),(4,.float .f64 4666723172467343360),(5,.float .f64 4681608360884174848),(6,.float .f64 4696837146684686336)]).run Tryz.prog W = .ok (.agg #[.float .f64 4607182418800017408,.float .f64 4621819117588971520,.float .f64 4636737291354636288,.float .f64 4652007308841189376,.float .f64 4666723172467343360,.float .f64 4681608360884174848,.float .f64 4696837146684686336]) W:=by kernel_rfl
set_option maxRecDepth 100000 in
theorem run_idxPow0 (W:World):(Instr.index 269 (.agg #[.float .f64 4607182418800017408,.float .f64 4621819117588971520,.float .f64 4636737291354636288,.float .f64 4652007308841189376,.float .f64 4666723172467343360,.float .f64 4681608360884174848,.float .f64 4696837146684686336]) (.int .i64 0)).run Tryz.prog W = .ok (.float .f64 4607182418800017408) W:=by kernel_rfl
set_option maxRecDepth 100000 in
theorem run_idxPow1 (W:World):(Instr.index 269 (.agg #[.float .f64 4607182418800017408,.float .f64 4621819117588971520,.float .f64 4636737291354636288,.float .f64 4652007308841189376,.float .f64 4666723172467343360,.float .f64 4681608360884174848,.float .f64 4696837146684686336]) (.int .i64 1)).run Tryz.prog W = .ok (.float .f64 4621819117588971520) W:=by kernel_rfl
set_option maxRecDepth 100000 in
theorem run_idxPow2 (W:World):(Instr.index 269 (.agg #[.float .f64 4607182418800017408,.float .f64 4621819117588971520,.float .f64 4636737291354636288,.float .f64 4652007308841189376,.float .f64 4666723172467343360,.float .f64 4681608360884174848,.float .f64 4696837146684686336]) (.int .i64 2)).run Tryz.prog W = .ok (.float .f64 4636737291354636288) W:=by kernel_rfl
set_option maxRecDepth 100000 in
theorem run_idxPow3 (W:World):(Instr.index 269 (.agg #[.float .f64 4607182418800017408,.float .f64 4621819117588971520,.float .f64 4636737291354636288,.float .f64 4652007308841189376,.float .f64 4666723172467343360,.float .f64 4681608360884174848,.float .f64 4696837146684686336]) (.int .i64 3)).run Tryz.prog W = .ok (.float .f64 4652007308841189376) W:=by kernel_rfl
set_option maxRecDepth 100000 in
theorem run_idxPow4 (W:World):(Instr.index 269 (.agg #[.float .f64 4607182418800017408,.float .f64 4621819117588971520,.float .f64 4636737291354636288,.float .f64 4652007308841189376,.float .f64 4666723172467343360,.float .f64 4681608360884174848,.float .f64 4696837146684686336]) (.int .i64 4)).run Tryz.prog W = .ok (.float .f64 4666723172467343360) W:=by kernel_rfl
set_option maxRecDepth 100000 in
theorem run_idxPow5 (W:World):(Instr.index 269 (.agg #[.float .f64 4607182418800017408,.float .f64 4621819117588971520,.float .f64 4636737291354636288,.float .f64 4652007308841189376,.float .f64 4666723172467343360,.float .f64 4681608360884174848,.float .f64 4696837146684686336]) (.int .i64 5)).run Tryz.prog W = .ok (.float .f64 4681608360884174848) W:=by kernel_rfl
set_option maxRecDepth 100000 in
theorem run_idxPow6 (W:World):(Instr.index 269 (.agg #[.float .f64 4607182418800017408,.float .f64 4621819117588971520,.float .f64 4636737291354636288,.float .f64 4652007308841189376,.float .f64 4666723172467343360,.float .f64 4681608360884174848,.float .f64 4696837146684686336]) (.int .i64 6)).run Tryz.prog W = .ok (.float .f64 4696837146684686336) W:=by kernel_rfl
set_option maxRecDepth 100000 in
set_option maxHeartbeats 1600000 in
theorem rpowers_any (k:Nat) (hk:k≤6) (w:World):Calls Tryz.prog 230 #[.int .i64 (k:Int)] w fun e w'=>e = .returned (.float .f64 (powT k))∧w=w':=by
 have hbd:=run_buildPow
 rcases (show k=0∨k=1∨k=2∨k=3∨k=4∨k=5∨k=6 by omega) with rfl | rfl | rfl | rfl | rfl | rfl | rfl
 · have hix:=run_idxPow0
   go_enter Tryz.func230,Tryz.ntmps230
   go_wp2_with fail
   go_ret
   exact ⟨rfl,rfl⟩
 · have hix:=run_idxPow1
   go_enter Tryz.func230,Tryz.ntmps230
   go_wp2_with fail
   go_ret
   exact ⟨rfl,rfl⟩
 · have hix:=run_idxPow2
   go_enter Tryz.func230,Tryz.ntmps230
   go_wp2_with fail
   go_ret
   exact ⟨rfl,rfl⟩
 · have hix:=run_idxPow3
   go_enter Tryz.func230,Tryz.ntmps230
   go_wp2_with fail
   go_ret
   exact ⟨rfl,rfl⟩
 · have hix:=run_idxPow4
   go_enter Tryz.func230,Tryz.ntmps230
   go_wp2_with fail
   go_ret
   exact ⟨rfl,rfl⟩
 · have hix:=run_idxPow5
   go_enter Tryz.func230,Tryz.ntmps230
   go_wp2_with fail
   go_ret
   exact ⟨rfl,rfl⟩
 · have hix:=run_idxPow6
   go_enter Tryz.func230,Tryz.ntmps230
   go_wp2_with fail
   go_ret
   exact ⟨rfl,rfl⟩
theorem slcut_dot (s:List UInt8) (hs:s.length≤1048576) (w:World):Calls Tryz.prog 268 #[.string (str s),.string ⟨#[46]⟩] w fun e w'=>e = .returned (.tuple #[.string (str (rpW s)),.string (str (rpP s)),.bool (rpO s)])∧∃ q,w'=w.drewN q:=by
 have hix:=Tryz.stringslite_Index_one (str s) 46
 rw [str_data] at hix
 rcases cut_split s with h | ⟨X,P,rfl,h⟩
 · have hr:rpW s=s∧rpP s=[]∧rpO s=false:=by unfold rpW rpP rpO;rw [cut_no h];exact ⟨rfl,rfl,rfl⟩
   rw [hr.1,hr.2.1,hr.2.2]
   rw [indexByte_none s h] at hix
   clear h hr
   go_enter Tryz.func268,Tryz.ntmps268
   go_wp2_with (go_at_call 278;refine (hix _).mono ?_;rintro e w' ⟨rfl,rfl⟩)
   go_ret3
   exact ⟨rfl,0,rfl⟩
 · have hr:rpW (X++46::P)=X∧rpP (X++46::P)=P∧rpO (X++46::P)=true:=by unfold rpW rpP rpO;rw [cut_app h];exact ⟨rfl,rfl,rfl⟩
   rw [hr.1,hr.2.1,hr.2.2]
   rw [indexByte_app X P h] at hix
   obtain ⟨n,hn⟩:∃ n,n=X.length:=⟨_,rfl⟩
   rw [← hn] at hix
   obtain ⟨S,hS⟩:∃ S,S=X++46::P:=⟨_,rfl⟩
   rw [← hS] at hix ⊢
   have hsl:S.length≤1048576:=by rw [hS];exact hs
   have hnl:n+1≤S.length:=by rw [hS,hn];simp
   have hx1:(S.take n)=X:=by rw [hS,hn];simp
   have hx2:(S.drop (n+1))=P:=by rw [hS,hn];simp
   have e9:List.take (S.length - (n+1)) (List.drop (n+1) S)=P:=by rw [List.take_of_length_le (by rw [List.length_drop];omega)];exact hx2
   have hz1:(n:Int)≤S.length:=by omega
   have hz2:(n:Int)+1≤S.length:=by omega
   have hz3:n≤S.length:=by omega
   have hz4:(n:Int)<S.length:=by omega
   have hz5:n<S.length:=by omega
   have hz6:(0:Int)≤(n:Int)+1:=by omega
   have hwr:IntKind.i64.wrap ((n:Int)+1)=(n:Int)+1:=by rw [IntKind.wrap_i64];omega
   clear h hr hS hn hs hx2
   go_enter Tryz.func268,Tryz.ntmps268
   go_wp2_with (go_at_call 278;refine (hix _).mono ?_;rintro e w' ⟨rfl,rfl⟩)
   go_quiet (fail)
   go_wp2_with fail
   go_ret3
   exact ⟨rfl,_,rfl⟩
theorem cut_dot (s:List UInt8) (hs:s.length≤1048576) (w:World):Calls Tryz.prog 248 #[.string (str s),.string ⟨#[46]⟩] w fun e w'=>e = .returned (.tuple #[.string (str (rpW s)),.string (str (rpP s)),.bool (rpO s)])∧∃ q,w'=w.drewN q:=by
 go_enter Tryz.func248,Tryz.ntmps248
 go_wp2_with (go_at_call 268;refine (slcut_dot s hs _).mono ?_;rintro e w' ⟨rfl,q,rfl⟩)
 go_ret3
 exact ⟨rfl,q,rfl⟩
set_option maxRecDepth 100000 in
set_option maxHeartbeats 3200000 in
theorem rparse_any (s:List UInt8) (hs:s.length≤1048576) (w:World):
  Calls Tryz.prog 214 #[.string (str s)] w fun e w'=>e = .returned (.tuple #[.int .u64 (rpB s),.int .i64 (rpF s)])∧Below w.heap.size w w':=by
 obtain ⟨X,hX⟩:∃ X,X=rpW s:=⟨_,rfl⟩
 obtain ⟨P,hP⟩:∃ P,P=rpP s:=⟨_,rfl⟩
 obtain ⟨O,hO⟩:∃ O,O=rpO s:=⟨_,rfl⟩
 have HC:=Lib.hid (show (Lib.cut s [46]).1=X∧(Lib.cut s [46]).2.1=P∧(Lib.cut s [46]).2.2=O from ⟨hX.symm,hP.symm,hO.symm⟩)
 have HR:=Lib.hid (show rpOk s=(fmtB O X P&&(X++P).all digB)∧rpB s=(if rpOk s=true then arN .quo (floatOfInt .f64 (decV (X++P))) (powT P.length) else 0) from by
  unfold rpB rpOk;rw [hX,hP,hO];exact ⟨rfl,rfl⟩)
 have HM:=Lib.hid (And.intro trivial hs)
 clear hX hP hO hs
 go_enter Tryz.func214,Tryz.ntmps214
 go_upto_region 2 with (first
  | (go_at_call 248
     go_must (refine (cut_dot s HM.out.2 _).mono ?_
              rw [show rpW s=X from HC.out.1,show rpP s=P from HC.out.2.1,show rpO s=O from HC.out.2.2]
              rintro e' w1 ⟨rfl,q,hw⟩
              have HB:=Lib.hid (show Below w.heap.size w w1 from by rw [hw];exact below_drewN (Below.refl _ _) q)
              clear hw)))
 go_cut [47] (fun sv wx=>sv = .bool (!fmtB O X P)∧wx=w1)
 case first=>
  cases O with
  | false=>
    have HF:=Lib.hid (show fmtB false X P=false from by unfold fmtB;exact decide_eq_false (fun h=>by simp at h))
    go_wp2_with fail
    go_meet
    case rel=>exact ⟨by rw [HF.out];rfl,rfl⟩
  | true=>
    cases X with
    | nil=>
      have HF:=Lib.hid (show fmtB true [] P=false from by unfold fmtB;exact decide_eq_false (fun h=>by simp at h))
      go_wp2_with fail
      go_meet
      case rel=>exact ⟨by rw [HF.out];rfl,rfl⟩
    | cons x r=>
      by_cases hp0:P=[]
      · subst hp0
        have HF:=Lib.hid (show fmtB true (x::r) []=false from by unfold fmtB;exact decide_eq_false (fun h=>by simp at h))
        go_wp2_with fail
        go_meet
        case rel=>exact ⟨by rw [HF.out];rfl,rfl⟩
      have hpb:(P==[])=false:=by simpa using hp0
      by_cases hp6:6<P.length
      · have h6:(6:Int)<P.length:=by omega
        have HF:=Lib.hid (show fmtB true (x::r) P=false from by unfold fmtB;exact decide_eq_false (fun h=>by have:=h.2.2.2.1;omega))
        clear hp0 hp6
        go_wp2_with fail
        go_meet
        case rel=>exact ⟨by rw [HF.out];rfl,rfl⟩
      have h6:¬ (6:Int)<P.length:=by omega
      by_cases hp15:15<(x::r).length+P.length
      · have h15:(15:Int)<(x::r).length+P.length:=by omega
        have h15':(15:Int)<r.length+1+P.length:=by simp at hp15;omega
        have HF:=Lib.hid (show fmtB true (x::r) P=false from by unfold fmtB;exact decide_eq_false (fun h=>by have:=h.2.2.2.2.1;omega))
        have hrl:r.length+1≤1048576:=by have:=cut_len s;rw [HC.out.1] at this;simp at this;have:=HM.out.2;omega
        clear hp0 hp6 hp15
        go_wp2_with fail
        go_meet
        case rel=>exact ⟨by rw [HF.out];rfl,rfl⟩
      have h15:¬ (15:Int)<r.length+1+P.length:=by simp at hp15;omega
      have h15b:r.length+1+P.length≤15:=by simp at hp15;omega
      have hidx:∀ W,(Instr.index 9 (.string (str (x::r))) (.int .i64 0)).run Tryz.prog W = .ok (.int .u8 (x.toNat:Nat)) W:=fun W=>run_idx0 (x::r) 0 (by simp) W
      by_cases hx:x=48
      · subst hx
        cases r with
        | nil=>
          have h15c:¬ (15:Int)<1+P.length:=by simp at h15b;omega
          have HF:=Lib.hid (show fmtB true [48] P=true from by unfold fmtB;exact decide_eq_true ⟨rfl,by simp,hp0,by omega,by simp at h15b ⊢;omega,by simp⟩)
          clear hp0 hp6 hp15
          go_wp2_with fail
          go_meet
          case rel=>exact ⟨by rw [HF.out];rfl,rfl⟩
        | cons y r=>
          have h15d:¬ (15:Int)<r.length+1+1+P.length:=by simp at h15b;omega
          have HF:=Lib.hid (show fmtB true (48::y::r) P=false from by unfold fmtB;exact decide_eq_false (fun h=>h.2.2.2.2.2 ⟨rfl,by simp⟩))
          clear hp0 hp6 hp15
          go_wp2_with fail
          go_meet
          case rel=>exact ⟨by rw [HF.out];rfl,rfl⟩
      · have hx48:((x.toNat:Int)==48)=false:=by
         have:x.toNat≠48:=fun e=>hx (UInt8.toNat.inj (by rw [e];rfl))
         simp;omega
        have HF:=Lib.hid (show fmtB true (x::r) P=true from by unfold fmtB;exact decide_eq_true ⟨rfl,by simp,hp0,by omega,by simp;omega,fun h=>hx (by simpa using h.1)⟩)
        clear hp0 hp6 hp15 hx
        go_wp2_with fail
        go_meet
        case rel=>exact ⟨by rw [HF.out];rfl,rfl⟩
 case rest=>
  obtain ⟨rfl,hwx⟩:=hcut
  have hwx':=hwx.symm
  subst hwx'
  clear hwx
  rcases hf:fmtB O X P with _ | _
  · have HK:=Lib.hid (rp_bad (s:=s) (by rw [HR.out.1,hf];rfl))
    simp only [Bool.not_false]
    clear hf
    go_wp2_with fail
    go_ret2
    rw [HK.out.1,HK.out.2]
    exact ⟨rfl,HB.out⟩
  · simp only [Bool.not_true]
    have hfd:O=true∧X≠[]∧P≠[]∧P.length≤6∧X.length+P.length≤15∧¬ (X.head?=some 48∧X≠[48]):=by unfold fmtB at hf;exact of_decide_eq_true hf
    have hp6:P.length≤6:=hfd.2.2.2.1
    have hxp:X.length+P.length≤15:=hfd.2.2.2.2.1
    have HFT:=Lib.hid hf
    clear hf hfd
    obtain ⟨D,hD⟩:∃ D,D=X++P:=⟨_,rfl⟩
    have hDl:D.length≤15:=by rw [hD,List.length_append];omega
    have hsum:∀ W,(Op.stringOp .add (str X) (str P)).run Tryz.prog W = .ok (.string (str D)) W:=fun W=>by
     have:=run_string_add_sum (P:=Tryz.prog) (w:=W) (str X) (str P) (by rw [str_size,str_size];omega)
     rw [this,str_append,hD]
    have HD:=Lib.hid hD
    obtain ⟨n,hn⟩:∃ n,n=D.length:=⟨_,rfl⟩
    have kb:=fun (w:World) (l:List UInt8)=>Lib.run_convert_string_bytes (P:=Tryz.prog) w 9 90 5 (str l) Tryz.underlying9 Tryz.underlying90 Tryz.underlying5
    have HN:=Lib.hid hn
    clear hD hn
    go_wp2_with fail
    have hbw:=bw_below w1 5 D
    have HS:=Lib.hid (bw_slN w1 5 D n HN.out.symm)
    have HB2:=Lib.hid (below_then HB.out hbw)
    have hnl:n≤15:=by rw [HN.out];exact hDl
    clear hbw hsum kb
    generalize hk:w1.heap.size=k51 at *
    generalize (Lib.bytesWorld w1 5 (str D))=W2 at *
    have HK1:=Lib.hid hk
    clear hk
    go_loopw [7,53] (fun nv iv wr=>∃ k:Nat,k≤n∧nv = .int .i64 (decV (D.take k):Nat)∧iv = .int .i64 k∧wr=W2∧(D.take k).all digB=true) (fun _ iv _=>n - (intOf iv).toNat)
    case atStart=>exact ⟨0,by omega,by simp [decV],rfl,rfl,by simp⟩
    case round=>
     obtain ⟨k,hk,rfl,rfl,rfl,hall⟩:=hrel
     have hnD:D.length=n:=HN.out.symm
     by_cases hlt:k<n
     · have hkD:k<D.length:=by omega
       obtain ⟨x,hx⟩:∃ x,D[k]?=some x:=⟨_,List.getElem?_eq_getElem hkD⟩
       obtain ⟨ad,u,hA,-,hu,hca⟩:=HS.out.at1 hlt
       have hu2:u = .int .u8 (x.toNat:Int):=by
        have:=hu
        unfold byt at this
        rw [List.getElem?_map,hx] at this
        exact (Option.some.inj this).symm
       subst hu2
       have hA':=Option.some.inj hA
       subst hA'
       have hca2:wr.cell? ⟨k51,k,none⟩=some (.int .u8 (x.toNat:Int)):=by
        have h:=hca
        simp only [Addr.add,Nat.zero_add] at h
        split at h
        · rename_i h0
          rw [h0]
          exact h
        · exact h
       have htk:D.take (k+1)=D.take k++[x]:=by rw [List.take_add_one,hx];rfl
       obtain ⟨V,hV⟩:∃ V,V=decV (D.take k):=⟨_,rfl⟩
       have hVb:V<10 ^ 15:=by
        have h1:=decV_lt _ hall
        rw [← hV,List.length_take] at h1
        exact Nat.lt_of_lt_of_le h1 (Nat.pow_le_pow_right (by omega) (by omega))
       have h1515:(10:Nat) ^ 15=1000000000000000:=by decide
       have hVi:(V:Int)≤1000000000000000:=by omega
       clear h1515
       have hV0:(0:Int)≤V:=by omega
       have hx255:x.toNat≤255:=by have:=x.toNat_lt;omega
       have hki:(k:Int)<n:=by omega
       rw [← hV]
       by_cases hx1:(x.toNat:Int)<48
       · have HK:=Lib.hid (rp_bad (s:=s) (by
          rw [HR.out.1,← HD.out]
          have:D.all digB=false:=List.all_eq_false.2 ⟨x,List.mem_of_getElem? hx,by unfold digB;simp;omega⟩
          rw [this];simp))
         have HB:=HB2
         clear hu hA hca hx htk hall hV hVb hnD
         go_wp2_with fail
         go_ret2
         rw [HK.out.1,HK.out.2]
         exact ⟨rfl,HB.out⟩
       by_cases hx2:(57:Int)<x.toNat
       · have HK:=Lib.hid (rp_bad (s:=s) (by
          rw [HR.out.1,← HD.out]
          have:D.all digB=false:=List.all_eq_false.2 ⟨x,List.mem_of_getElem? hx,by unfold digB;simp;omega⟩
          rw [this];simp))
         have HB:=HB2
         clear hu hA hca hx htk hall hV hVb hnD
         go_wp2_with fail
         go_ret2
         rw [HK.out.1,HK.out.2]
         exact ⟨rfl,HB.out⟩
       · have HT:=Lib.hid (show ((10*V+(x.toNat - 48):Nat):Int)=((decV (D.take (k+1)):Nat):Int)∧(D.take (k+1)).all digB=true from by
          refine ⟨by rw [htk,decV_succ,← hV],?_⟩
          rw [htk,List.all_append,hall]
          have:digB x=true:=by unfold digB;exact decide_eq_true ⟨by omega,by omega⟩
          simp [this])
         have hx3:(48:Int)≤x.toNat:=by omega
         have hx4:(x.toNat:Int)≤57:=by omega
         clear hu hA hca hx htk hall hV hVb hnD hx1
         go_wp2_with fail
         go_roundw
         case rel=>exact ⟨k+1,by omega,by rw [← HT.out.1];congr 1;omega,by go_num,trivial,HT.out.2⟩
         case measure=>simp [intOf];omega
     · have hkn:k=n:=by omega
       have hld:¬ k<D.length:=by omega
       have htk:D.take k=D:=List.take_of_length_le (by omega)
       rw [htk] at hall ⊢
       have HOK:=Lib.hid (show rpB s=arN .quo (floatOfInt .f64 (decV D)) (powT P.length)∧rpF s=0 from by
        have hok:rpOk s=true:=by rw [HR.out.1,HFT.out,← HD.out,hall];rfl
        rw [HR.out.2,if_pos hok,← HD.out]
        unfold rpF
        rw [if_pos hok]
        exact ⟨rfl,rfl⟩)
       clear htk hall hnD hk hkn
       cases h:floatBits .quo .f64 (floatOfInt .f64 (decV D)) (powT P.length) with
       | some r=>
         have hrun:=fun w t=>run_float_arith (P:=Tryz.prog) w .quo t .f64 _ _ _ h
         have HE:=Lib.hid (show arN .quo (floatOfInt .f64 (decV D)) (powT P.length)=toN r by simp [arN,h])
         clear h
         go_wp2_with (first
          | (go_at_call 230;refine (rpowers_any P.length hp6 _).mono ?_;rintro e w' ⟨rfl,rfl⟩)
          | (go_at_call 228;refine (pto_any _ _).mono ?_;rintro e w' ⟨rfl,rfl⟩))
         go_ret2
         rw [HOK.out.1,HOK.out.2,HE.out]
         exact ⟨rfl,HB2.out⟩
       | none=>
         obtain ⟨r,hrun,hnan⟩:=run_float_nan (P:=Tryz.prog) wr .quo 225 _ _ (.inr (.inr (.inr rfl))) h
         have HE:=Lib.hid (show arN .quo (floatOfInt .f64 (decV D)) (powT P.length)=toN r by simp [arN,h,toN,hnan])
         clear h hnan
         go_wp2_with (first
          | (go_at_call 230;refine (rpowers_any P.length hp6 _).mono ?_;rintro e w' ⟨rfl,rfl⟩)
          | (go_at_call 228;refine (pto_any _ _).mono ?_;rintro e w' ⟨rfl,rfl⟩))
         go_ret2
         rw [HOK.out.1,HOK.out.2,HE.out]
         exact ⟨rfl,HB2.out.drew⟩
end
section
theorem frombits (a:Int) (w:World):(callFunc 237 #[.int .u64 a]).run Tryz.prog w = .ok (.value (.float .f64 a.toNat)) w:=by
 rw [run_callFunc_extern (P:=Tryz.prog) Tryz.func237 (by kernel_rfl) (by kernel_rfl) (e:=Extern.MathFloatBits.float64frombits) (by kernel_rfl) (by kernel_rfl)]
 rfl
theorem pof_any (a:Int) (w:World):Calls Tryz.prog 229 #[.int .u64 a] w fun e w'=>e = .returned (.float .f64 a.toNat)∧w=w':=by
 have h1:=frombits
 go_enter Tryz.func229,Tryz.ntmps229
 go_wp2
 go_ret
 exact ⟨rfl,rfl⟩
theorem pcanon_any (a:Int) (w:World):Calls Tryz.prog 199 #[.int .u64 a] w fun e w'=>e = .returned (.int .u64 (toN a.toNat))∧w=w':=by
 go_enter Tryz.func199,Tryz.ntmps199
 go_wp2_with (first
  | (go_at_call 229;refine (pof_any _ _).mono ?_;rintro e w' ⟨rfl,rfl⟩)
  | (go_at_call 228;refine (pto_any _ _).mono ?_;rintro e w' ⟨rfl,rfl⟩))
 go_ret
 exact ⟨rfl,rfl⟩
theorem pmay_any (a:Int) (w:World):Calls Tryz.prog 135 #[.int .u64 a] w fun e w'=>e = .returned (.bool (((toN a.toNat:Nat):Int)==a))∧w=w':=by
 go_enter Tryz.func135,Tryz.ntmps135
 go_wp2_with (first
  | (go_at_call 199;refine (pcanon_any _ _).mono ?_;rintro e w' ⟨rfl,rfl⟩))
 go_ret
 exact ⟨rfl,rfl⟩
end
end Go.Proofs.YtiacalnkmnckjaaGreatDoor
section
namespace Go.Proofs
open Go.Shelf
def Tryz.laysM171_ren:Go.Shelf.Ren:=⟨fun | 171=>255 | 243=>270 | 246=>201 | 283=>232 | 284=>233 | 285=>234 | 286=>235 | 129=>257 | 317=>256 | 318=>258 | 319=>259 | 320=>260 | 337=>271 | 338=>272 | n=>n,fun | 3=>3 | 9=>9 | 2=>2 | 4=>4 | 171=>249 | 0=>0 | 53=>29 | 37=>90 | 5=>5 | 173=>252 | 212=>272 | 51=>266 | 20=>20 | 213=>273 | 46=>224 | 232=>284 | 233=>285 | n=>n,fun | 17=>1 | 18=>3 | 19=>4 | n=>n⟩
theorem Tryz.laysM171:Go.Proofs.LaysM.n171 Tryz.prog Tryz.laysM171_ren:={
 mixed:=by kernel_rfl
 f129:=Tryz.func257.trans (congrArg some (by kernel_rfl))
 f171:=Tryz.func255.trans (congrArg some (by kernel_rfl))
 f243:=Tryz.func270.trans (congrArg some (by kernel_rfl))
 f246:=Tryz.func201.trans (congrArg some (by kernel_rfl))
 f283:=Tryz.func232.trans (congrArg some (by kernel_rfl))
 f284:=Tryz.func233.trans (congrArg some (by kernel_rfl))
 f285:=Tryz.func234.trans (congrArg some (by kernel_rfl))
 f286:=Tryz.func235.trans (congrArg some (by kernel_rfl))
 f317:=Tryz.func256.trans (congrArg some (by kernel_rfl))
 f318:=Tryz.func258.trans (congrArg some (by kernel_rfl))
 f319:=Tryz.func259.trans (congrArg some (by kernel_rfl))
 f320:=Tryz.func260.trans (congrArg some (by kernel_rfl))
 f337:=Tryz.func271.trans (congrArg some (by kernel_rfl))
 f338:=Tryz.func272.trans (congrArg some (by kernel_rfl))
 t0:=Tryz.underlying0
 a0:=Tryz.isAgg0
 z0:=Tryz.sizeOf0
 v0:=Tryz.zeroValue0
 t2:=Tryz.underlying2
 a2:=Tryz.isAgg2
 z2:=Tryz.sizeOf2
 v2:=Tryz.zeroValue2
 t3:=Tryz.underlying3
 a3:=Tryz.isAgg3
 z3:=Tryz.sizeOf3
 v3:=Tryz.zeroValue3
 t4:=Tryz.underlying4
 a4:=Tryz.isAgg4
 z4:=Tryz.sizeOf4
 v4:=Tryz.zeroValue4
 t5:=Tryz.underlying5
 a5:=Tryz.isAgg5
 z5:=Tryz.sizeOf5
 v5:=Tryz.zeroValue5
 t9:=Tryz.underlying9
 a9:=Tryz.isAgg9
 z9:=Tryz.sizeOf9
 v9:=Tryz.zeroValue9
 t20:=Tryz.underlying20
 a20:=Tryz.isAgg20
 z20:=Tryz.sizeOf20
 v20:=Tryz.zeroValue20
 t37:=Tryz.underlying90
 a37:=Tryz.isAgg90
 z37:=Tryz.sizeOf90
 v37:=Tryz.zeroValue90
 t46:=Tryz.underlying224
 a46:=Tryz.isAgg224
 z46:=Tryz.sizeOf224
 v46:=Tryz.zeroValue224
 t51:=Tryz.underlying266
 a51:=Tryz.isAgg266
 z51:=Tryz.sizeOf266
 v51:=Tryz.zeroValue266
 t53:=Tryz.underlying29
 a53:=Tryz.isAgg29
 z53:=Tryz.sizeOf29
 v53:=Tryz.zeroValue29
 t171:=Tryz.underlying249
 a171:=Tryz.isAgg249
 z171:=Tryz.sizeOf249
 v171:=Tryz.zeroValue249
 t173:=Tryz.underlying252
 a173:=Tryz.isAgg252
 z173:=Tryz.sizeOf252
 v173:=Tryz.zeroValue252
 t212:=Tryz.underlying272
 a212:=Tryz.isAgg272
 z212:=Tryz.sizeOf272
 v212:=Tryz.zeroValue272
 t213:=Tryz.underlying273
 a213:=Tryz.isAgg273
 z213:=Tryz.sizeOf273
 t232:=Tryz.underlying284
 a232:=Tryz.isAgg284
 z232:=Tryz.sizeOf284
 v232:=Tryz.zeroValue284
 t233:=Tryz.underlying285
 a233:=Tryz.isAgg285
 z233:=Tryz.sizeOf285
 v233:=Tryz.zeroValue285
 g17:=by kernel_rfl
 g18:=by kernel_rfl
 g19:=by kernel_rfl
 i0:=by kernel_rfl
 i2:=by kernel_rfl
 i3:=by kernel_rfl
 i4:=by kernel_rfl
 i5:=by kernel_rfl
 i9:=by kernel_rfl
 i20:=by kernel_rfl
 i37:=by kernel_rfl
 i46:=by kernel_rfl
 i51:=by kernel_rfl
 i53:=by kernel_rfl
 i171:=by kernel_rfl
 i173:=by kernel_rfl
 i212:=by kernel_rfl
 i232:=by kernel_rfl
 i233:=by kernel_rfl
 m17:=by kernel_rfl
 m18:=by kernel_rfl
 m19:=by kernel_rfl }
open Go.RowKit Go.Sort Go.Lib in
theorem Tryz.strconv_Itoa (n:Int) (h0 : -9223372036854775808≤n) (h1:n≤9223372036854775807) (w:World) (htab:Lib.TabIs Tryz.prog w "internal/strconv.uint64pow10" .u64 Lib.pow10Tab):
 Calls Tryz.prog 255 #[.int .i64 n] w fun e w'=>e = .returned (.string ⟨(Lib.itoa n).toArray⟩)∧∃ k os,w'=grow (w.drewN k) os:=Any.strconv_Itoa Tryz.laysM171 n h0 h1 w htab
def Tryz.laysM173_ren:Go.Shelf.Ren:=⟨fun | 173=>137 | 246=>201 | 283=>232 | 284=>233 | 285=>234 | 286=>235 | 129=>257 | 317=>256 | 318=>258 | 319=>259 | 320=>260 | 337=>271 | 338=>272 | n=>n,fun | 2=>2 | 3=>3 | 9=>9 | 4=>4 | 171=>249 | 0=>0 | 53=>29 | 37=>90 | 5=>5 | 173=>252 | 212=>272 | 51=>266 | 20=>20 | 213=>273 | 46=>224 | 232=>284 | 233=>285 | n=>n,fun | 17=>1 | 18=>3 | 19=>4 | n=>n⟩
theorem Tryz.laysM173:Go.Proofs.LaysM.n173 Tryz.prog Tryz.laysM173_ren:={
 mixed:=by kernel_rfl
 f129:=Tryz.func257.trans (congrArg some (by kernel_rfl))
 f173:=Tryz.func137.trans (congrArg some (by kernel_rfl))
 f246:=Tryz.func201.trans (congrArg some (by kernel_rfl))
 f283:=Tryz.func232.trans (congrArg some (by kernel_rfl))
 f284:=Tryz.func233.trans (congrArg some (by kernel_rfl))
 f285:=Tryz.func234.trans (congrArg some (by kernel_rfl))
 f286:=Tryz.func235.trans (congrArg some (by kernel_rfl))
 f317:=Tryz.func256.trans (congrArg some (by kernel_rfl))
 f318:=Tryz.func258.trans (congrArg some (by kernel_rfl))
 f319:=Tryz.func259.trans (congrArg some (by kernel_rfl))
 f320:=Tryz.func260.trans (congrArg some (by kernel_rfl))
 f337:=Tryz.func271.trans (congrArg some (by kernel_rfl))
 f338:=Tryz.func272.trans (congrArg some (by kernel_rfl))
 t0:=Tryz.underlying0
 a0:=Tryz.isAgg0
 z0:=Tryz.sizeOf0
 v0:=Tryz.zeroValue0
 t2:=Tryz.underlying2
 a2:=Tryz.isAgg2
 z2:=Tryz.sizeOf2
 v2:=Tryz.zeroValue2
 t3:=Tryz.underlying3
 a3:=Tryz.isAgg3
 z3:=Tryz.sizeOf3
 v3:=Tryz.zeroValue3
 t4:=Tryz.underlying4
 a4:=Tryz.isAgg4
 z4:=Tryz.sizeOf4
 v4:=Tryz.zeroValue4
 t5:=Tryz.underlying5
 a5:=Tryz.isAgg5
 z5:=Tryz.sizeOf5
 v5:=Tryz.zeroValue5
 t9:=Tryz.underlying9
 a9:=Tryz.isAgg9
 z9:=Tryz.sizeOf9
 v9:=Tryz.zeroValue9
 t20:=Tryz.underlying20
 a20:=Tryz.isAgg20
 z20:=Tryz.sizeOf20
 v20:=Tryz.zeroValue20
 t37:=Tryz.underlying90
 a37:=Tryz.isAgg90
 z37:=Tryz.sizeOf90
 v37:=Tryz.zeroValue90
 t46:=Tryz.underlying224
 a46:=Tryz.isAgg224
 z46:=Tryz.sizeOf224
 v46:=Tryz.zeroValue224
 t51:=Tryz.underlying266
 a51:=Tryz.isAgg266
 z51:=Tryz.sizeOf266
 v51:=Tryz.zeroValue266
 t53:=Tryz.underlying29
 a53:=Tryz.isAgg29
 z53:=Tryz.sizeOf29
 v53:=Tryz.zeroValue29
 t171:=Tryz.underlying249
 a171:=Tryz.isAgg249
 z171:=Tryz.sizeOf249
 v171:=Tryz.zeroValue249
 t173:=Tryz.underlying252
 a173:=Tryz.isAgg252
 z173:=Tryz.sizeOf252
 v173:=Tryz.zeroValue252
 t212:=Tryz.underlying272
 a212:=Tryz.isAgg272
 z212:=Tryz.sizeOf272
 v212:=Tryz.zeroValue272
 t213:=Tryz.underlying273
 a213:=Tryz.isAgg273
 z213:=Tryz.sizeOf273
 t232:=Tryz.underlying284
 a232:=Tryz.isAgg284
 z232:=Tryz.sizeOf284
 v232:=Tryz.zeroValue284
 t233:=Tryz.underlying285
 a233:=Tryz.isAgg285
 z233:=Tryz.sizeOf285
 v233:=Tryz.zeroValue285
 g17:=by kernel_rfl
 g18:=by kernel_rfl
 g19:=by kernel_rfl
 i0:=by kernel_rfl
 i2:=by kernel_rfl
 i3:=by kernel_rfl
 i4:=by kernel_rfl
 i5:=by kernel_rfl
 i9:=by kernel_rfl
 i20:=by kernel_rfl
 i37:=by kernel_rfl
 i46:=by kernel_rfl
 i51:=by kernel_rfl
 i53:=by kernel_rfl
 i171:=by kernel_rfl
 i173:=by kernel_rfl
 i212:=by kernel_rfl
 i232:=by kernel_rfl
 i233:=by kernel_rfl
 m17:=by kernel_rfl
 m18:=by kernel_rfl
 m19:=by kernel_rfl }
open Go.RowKit Go.Sort Go.Lib in
theorem Tryz.strconv_FormatInt_10 (n:Int) (h0 : -9223372036854775808≤n) (h1:n≤9223372036854775807) (w:World) (htab:Lib.TabIs Tryz.prog w "internal/strconv.uint64pow10" .u64 Lib.pow10Tab):
 Calls Tryz.prog 137 #[.int .i64 n,.int .i64 10] w fun e w'=>e = .returned (.string ⟨(Lib.itoa n).toArray⟩)∧∃ k os,w'=grow (w.drewN k) os:=Any.strconv_FormatInt_10 Tryz.laysM173 n h0 h1 w htab
def Tryz.lays105_ren:Go.Shelf.Ren:=⟨fun | 105=>196 | 212=>225 | 99=>226 | 165=>227 | 166=>53 | 170=>55 | 169=>56 | 263=>251 | 264=>249 | 206=>252 | 240=>125 | 241=>253 | 276=>195 | 277=>269 | n=>n,fun | 9=>9 | 3=>3 | 4=>4 | 20=>20 | 0=>0 | 46=>224 | 109=>244 | 5=>5 | 72=>92 | 76=>98 | 51=>266 | 146=>267 | 53=>29 | 148=>263 | 70=>89 | 37=>90 | 75=>97 | 127=>172 | 164=>219 | 80=>102 | n=>n,fun | n=>n⟩
theorem Tryz.lays105:Go.Proofs.Lays.n105 Tryz.prog Tryz.lays105_ren:={
 mixed:=by kernel_rfl
 f99:=Tryz.func226.trans (congrArg some (by kernel_rfl))
 f105:=Tryz.func196.trans (congrArg some (by kernel_rfl))
 f165:=Tryz.func227.trans (congrArg some (by kernel_rfl))
 f166:=Tryz.func53.trans (congrArg some (by kernel_rfl))
 f169:=Tryz.func56.trans (congrArg some (by kernel_rfl))
 f170:=Tryz.func55.trans (congrArg some (by kernel_rfl))
 f206:=Tryz.func252.trans (congrArg some (by kernel_rfl))
 f212:=Tryz.func225.trans (congrArg some (by kernel_rfl))
 f240:=Tryz.func125.trans (congrArg some (by kernel_rfl))
 f241:=Tryz.func253.trans (congrArg some (by kernel_rfl))
 f263:=Tryz.func251.trans (congrArg some (by kernel_rfl))
 f264:=Tryz.func249.trans (congrArg some (by kernel_rfl))
 f276:=Tryz.func195.trans (congrArg some (by kernel_rfl))
 f277:=Tryz.func269.trans (congrArg some (by kernel_rfl))
 t0:=Tryz.underlying0
 a0:=Tryz.isAgg0
 z0:=Tryz.sizeOf0
 v0:=Tryz.zeroValue0
 t3:=Tryz.underlying3
 a3:=Tryz.isAgg3
 z3:=Tryz.sizeOf3
 v3:=Tryz.zeroValue3
 t4:=Tryz.underlying4
 a4:=Tryz.isAgg4
 z4:=Tryz.sizeOf4
 v4:=Tryz.zeroValue4
 t5:=Tryz.underlying5
 a5:=Tryz.isAgg5
 z5:=Tryz.sizeOf5
 v5:=Tryz.zeroValue5
 t9:=Tryz.underlying9
 a9:=Tryz.isAgg9
 z9:=Tryz.sizeOf9
 v9:=Tryz.zeroValue9
 t20:=Tryz.underlying20
 a20:=Tryz.isAgg20
 z20:=Tryz.sizeOf20
 v20:=Tryz.zeroValue20
 t37:=Tryz.underlying90
 a37:=Tryz.isAgg90
 z37:=Tryz.sizeOf90
 v37:=Tryz.zeroValue90
 t46:=Tryz.underlying224
 a46:=Tryz.isAgg224
 z46:=Tryz.sizeOf224
 v46:=Tryz.zeroValue224
 t51:=Tryz.underlying266
 a51:=Tryz.isAgg266
 z51:=Tryz.sizeOf266
 v51:=Tryz.zeroValue266
 t53:=Tryz.underlying29
 a53:=Tryz.isAgg29
 z53:=Tryz.sizeOf29
 v53:=Tryz.zeroValue29
 t70:=Tryz.underlying89
 a70:=Tryz.isAgg89
 z70:=Tryz.sizeOf89
 v70:=Tryz.zeroValue89
 t72:=Tryz.underlying92
 a72:=Tryz.isAgg92
 z72:=Tryz.sizeOf92
 v72:=Tryz.zeroValue92
 t75:=Tryz.underlying97
 a75:=Tryz.isAgg97
 z75:=Tryz.sizeOf97
 v75:=Tryz.zeroValue97
 t76:=Tryz.underlying98
 a76:=Tryz.isAgg98
 z76:=Tryz.sizeOf98
 v76:=Tryz.zeroValue98
 t109:=Tryz.underlying244
 a109:=Tryz.isAgg244
 z109:=Tryz.sizeOf244
 v109:=Tryz.zeroValue244
 t127:=Tryz.underlying172
 a127:=Tryz.isAgg172
 z127:=Tryz.sizeOf172
 v127:=Tryz.zeroValue172
 t146:=Tryz.underlying267
 a146:=Tryz.isAgg267
 z146:=Tryz.sizeOf267
 v146:=Tryz.zeroValue267
 t148:=Tryz.underlying263
 a148:=Tryz.isAgg263
 z148:=Tryz.sizeOf263
 v148:=Tryz.zeroValue263
 t164:=Tryz.underlying219
 a164:=Tryz.isAgg219
 z164:=Tryz.sizeOf219
 v164:=Tryz.zeroValue219 }
theorem Tryz.Builder_Extra_105:Builder.Extra Tryz.prog Tryz.lays105_ren:={
 sizeBuilder:=by kernel_rfl
 liesBuilder:=by kernel_rfl
 t5:=Tryz.underlying5
 a5:=Tryz.isAgg5
 z5:=Tryz.sizeOf5
 v5:=Tryz.zeroValue5
 infoByte:=by kernel_rfl
 cellsByte:=by kernel_rfl
 sizeByte:=by kernel_rfl
 neB5:=by decide }
open Go.RowKit Go.Lib in
theorem Tryz.strings_Repeat (s:ByteArray) (c:Nat) (w:World) (hc:c≤9223372036854775807) (hlen:s.size*c≤140737488355328):
 Calls Tryz.prog 196 #[.string s,.int .i64 c] w fun e w'=>e = .returned (.string ⟨(Lib.repeatL s.data.toList c).toArray⟩)∧Below w.heap.size w w':=Any.strings_Repeat Tryz.lays105 Tryz.Builder_Extra_105 s c w hc hlen
end Go.Proofs
end
namespace Go.Proofs.YtiacalnkmnckjaaGreatDoor
open Go.RowKit Go.As
section
theorem toIntegral_eq (b:Nat):Extern.MathFloor.toIntegral "math.archFloor" .down #[.float .f64 b]=(match FloatKind.f64.decode b with
 | .nan s t=>
   if FloatKind.f64.format.quiet t=t then pure (.float .f64 b) else do
   let kept ← choose (.extern "math.Floor,Ceil,Trunc,RoundToEven.signallingNaN kept" 2)
   pure (.float .f64 (if kept==1 then b else FloatKind.f64.encode (.nan s (FloatKind.f64.format.quiet t))))
 | d=>pure (.float .f64 (FloatKind.f64.encode (d.integral .down)))):=rfl
theorem archFloor_run (b:Nat) (h:nanW b=false) (w:World):(callFunc 238 #[.float .f64 b]).run Tryz.prog w = .ok (.value (.float .f64 (flW b))) w:=by
 rw [run_callFunc_extern (P:=Tryz.prog) Tryz.func238 (by kernel_rfl) (by kernel_rfl) (e:=Extern.MathFloor.toIntegral "math.archFloor" .down) (by kernel_rfl) (by kernel_rfl)]
 unfold nanW at h
 obtain ⟨D,hD⟩:∃ D,fd.read b=D:=⟨_,rfl⟩
 have hfl:flW b=FloatKind.f64.encode (D.integral .down):=by unfold flW;rw [hD];rfl
 rw [hfl]
 rw [hD] at h
 have hdec:FloatKind.f64.decode b=D:=hD
 rw [toIntegral_eq,hdec]
 cases D with
 | nan s p=>cases h
 | infinity s=>rfl
 | number s m i=>rfl
theorem floor_any (b:Nat) (h:nanW b=false) (w:World):Calls Tryz.prog 205 #[.float .f64 b] w fun e w'=>e = .returned (.float .f64 (flW b))∧w=w':=by
 have h1:=archFloor_run b h
 clear h
 go_enter Tryz.func205,Tryz.ntmps205
 go_wp2
 go_ret
 exact ⟨rfl,rfl⟩
theorem below_growK (w:World) (k:Nat) (os:Array Obj):Below w.heap.size w (Go.Sort.grow (w.drewN k) os):=
 ⟨rfl,rfl,rfl,by simp [Go.Sort.grow,World.drewN],fun i hi=>by
  simp only [Go.Sort.grow,World.drewN]
  exact Array.getElem?_append_left hi⟩
theorem itoa_any (n:Nat) (hn:n<9223372036854775808) (w:World) (ht:Tab w):Calls Tryz.prog 255 #[.int .i64 (n:Int)] w fun e w'=>e = .returned (.string (str (Lib.decDigits n)))∧Below w.heap.size w w':=by
 refine (Tryz.strconv_Itoa (n:Int) (by omega) (by omega) w ht).mono ?_
 rintro e w' ⟨rfl,k,os,rfl⟩
 refine ⟨?_,below_growK _ _ _⟩
 unfold Lib.itoa
 rw [if_neg (by omega),Int.toNat_natCast]
 rfl
def strLen:Value→Nat
 | .string s=>s.size
 | _=>0
theorem strLen_str (l:List UInt8):strLen (.string (str l))=l.length:=str_size l
set_option maxRecDepth 100000 in
theorem literal_any (n k:Nat) (hn:n<10000000000000000) (h1:1≤k) (h6:k≤6) (w:World) (ht:Tab w):
  Calls Tryz.prog 231 #[.int .i64 (n:Int),.int .i64 (k:Int)] w fun e w'=>e = .returned (.string (str (litS n k)))∧Below w.heap.size w w':=by
 obtain ⟨D,hD⟩:∃ D,D=Lib.decDigits n:=⟨_,rfl⟩
 have hDl:D.length=Lib.nDigits n:=by rw [hD];exact Lib.decDigits_length n
 have hnd:Lib.nDigits n≤16:=nDigits_le (w:=15) (by omega)
 have hnd1:=Lib.nDigits_pos n
 obtain ⟨d,hd⟩:∃ d,d=Lib.nDigits n:=⟨_,rfl⟩
 rw [← hd] at hDl hnd hnd1
 have hpad:=pad_lit k n
 rw [← hD,← hd] at hpad
 have HP:=Lib.hid (And.intro hpad (show litS n k=Lib.decDigits (n / 10 ^ k)++46::dgw k n from rfl))
 have HI:=Lib.hid (show ∀ W,Tab W→Calls Tryz.prog 255 #[.int .i64 (n:Int)] W fun e w'=>e = .returned (.string (str D))∧Below W.heap.size W w' from fun W hW=>by rw [hD];exact itoa_any n (by omega) W hW)
 have HDL:=Lib.hid hDl
 have hDl':D.length≤16:=by omega
 clear hD hpad hn hd hDl
 go_enter Tryz.func231,Tryz.ntmps231
 go_wp2_with (go_at_call 255
              refine (HI.out _ ht).mono ?_
              rintro e w1 ⟨rfl,hb⟩
              have HB:=Lib.hid hb
              clear hb)
 go_loopw [5] (fun sv wr=>∃ j:Nat,sv = .string (str (List.replicate j 48++D))∧wr=w1∧(j=0∨j+d≤k+1)) (fun sv _=>20 - strLen sv)
 case atStart=>exact ⟨0,rfl,rfl,.inl rfl⟩
 case round=>
  obtain ⟨j,rfl,rfl,hj⟩:=hrel
  obtain ⟨S,hS⟩:∃ S,S=List.replicate j 48++D:=⟨_,rfl⟩
  have hSl:S.length=j+d:=by rw [hS,List.length_append,List.length_replicate,HDL.out]
  rw [← hS]
  have HS:=Lib.hid (And.intro hS hSl)
  by_cases hc:j+d≤k
  · have hc1:S.length≤k:=by omega
    have hsum:∀ W,(Op.stringOp .add (str [48]) (str S)).run Tryz.prog W = .ok (.string (str (48::S))) W:=fun W=>by
     rw [run_string_add_sum (P:=Tryz.prog) (w:=W) (str [48]) (str S) (by rw [str_size,str_size];simp;omega),str_append];rfl
    have HJ:=Lib.hid (show (48:UInt8)::S=List.replicate (j+1) 48++D∧(j+1=0∨j+1+d≤k+1) from ⟨by rw [hS,List.replicate_succ];rfl,.inr (by omega)⟩)
    have HM:=Lib.hid (show 20 - strLen (.string (str (48::S)))<20 - strLen (.string (str S)) from by rw [strLen_str,strLen_str,List.length_cons];omega)
    clear hS hSl hj hc
    go_wp2_with fail
    go_roundw
    case rel=>exact ⟨j+1,by rw [← HJ.out.1],trivial,HJ.out.2⟩
    case measure=>exact HM.out
  · have hc1:¬ S.length≤k:=by omega
    obtain ⟨X,hX⟩:∃ X,X=Lib.decDigits (n / 10 ^ k):=⟨_,rfl⟩
    obtain ⟨Y,hY⟩:∃ Y,Y=dgw k n:=⟨_,rfl⟩
    have hYl:Y.length=k:=by rw [hY];exact dgw_length k n
    have hSXY:S=X++Y:=by
     rw [hS,hX,hY,← HP.out.1]
     congr 2
     omega
    have hL:S.length=X.length+k:=by rw [hSXY,List.length_append,hYl]
    obtain ⟨x,hx⟩:∃ x,x=X.length:=⟨_,rfl⟩
    have hlit:litS n k=X++46::Y:=by rw [HP.out.2,hX,hY]
    have HLIT:=Lib.hid hlit
    have hSl2:S.length≤30:=by omega
    have e1:List.take x S=X:=by rw [hSXY,hx];simp
    have e2:List.take (S.length - x) (List.drop x S)=Y:=by
     rw [List.take_of_length_le (by rw [List.length_drop];omega),hSXY,hx];simp
    have hz0:(S.length:Int) - k=x:=by omega
    have hwr:IntKind.i64.wrap (x:Int)=x:=by rw [IntKind.wrap_i64];omega
    have hz1:(x:Int)≤S.length:=by omega
    have hz3:x≤S.length:=by omega
    have hXl:X.length≤30:=by omega
    have hs1:∀ W,(Op.stringOp .add (str X) (str [46])).run Tryz.prog W = .ok (.string (str (X++[46]))) W:=fun W=>by
     rw [run_string_add_sum (P:=Tryz.prog) (w:=W) (str X) (str [46]) (by rw [str_size,str_size];simp;omega),str_append]
    have hs2:∀ W,(Op.stringOp .add (str (X++[46])) (str Y)).run Tryz.prog W = .ok (.string (str (X++46::Y))) W:=fun W=>by
     rw [run_string_add_sum (P:=Tryz.prog) (w:=W) (str (X++[46])) (str Y) (by rw [str_size,str_size];simp;omega),str_append,List.append_assoc];rfl
    clear hS hSl hj hc hX hY hYl hSXY hL hx hlit hSl2 hXl
    go_wp2_with fail
    go_quiet (fail)
    go_wp2_with fail
    go_ret
    rw [HLIT.out]
    exact ⟨rfl,below_drewN HB.out _⟩
end
section
section
variable {a b r:Nat} (w:World)
theorem kcanon (h:toN a=r):Calls Tryz.prog 199 #[.int .u64 (a:Int)] w fun e w'=>e = .returned (.int .u64 (r:Int))∧w=w':=by
 have:=pcanon_any (a:Int) w
 rw [Int.toNat_natCast,h] at this
 exact this
theorem kmay (h:toN a=a):Calls Tryz.prog 135 #[.int .u64 (a:Int)] w fun e w'=>e = .returned (.bool true)∧w=w':=by
 have:=pmay_any (a:Int) w
 rw [Int.toNat_natCast,h] at this
 simpa using this
end
end
section
def NoLit (b k:Nat):Prop:=∀ k' n,k'<k→¬ LitIs b k' n
def PSpec (b:Nat) (s:List UInt8) (e:Int):Prop:=(e=0∧∃ k n,LitIs b k n∧s=litS n k∧NoLit b k)∨(e=2∧s=[]∧∀ k n,¬ LitIs b k n)
theorem PSpec.uniq {b:Nat} {s s':List UInt8} {e e':Int} (h:PSpec b s e) (g:PSpec b s' e'):s=s'∧e=e':=by
 rcases h with ⟨h1,k,n,h2,h3,h4⟩ | ⟨h1,h2,h3⟩
 · rcases g with ⟨g1,l,m,g2,g3,g4⟩ | ⟨g1,g2,g3⟩
   · have hkl:k=l:=by
      rcases Nat.lt_trichotomy k l with hlt | he | hgt
      · exact absurd h2 (g4 k n hlt)
      · exact he
      · exact absurd g2 (h4 l m hgt)
     subst hkl
     have:=h2.uniq g2
     subst this
     exact ⟨h3.trans g3.symm,h1.trans g1.symm⟩
   · exact absurd h2 (g3 k n)
 · rcases g with ⟨g1,l,m,g2,g3,g4⟩ | ⟨g1,g2,g3⟩
   · exact absurd g2 (h3 l m)
   · exact ⟨h2.trans g2.symm,h1.trans g1.symm⟩
theorem noLit_all {b:Nat} (h:NoLit b 7):∀ k n,¬ LitIs b k n:=fun k n hl=>h k n (by have:=hl.2.1;omega) hl
theorem noLit_one (b:Nat):NoLit b 1:=fun k n hk hl=>by have:=hl.1;omega
theorem noLit_succ {b k:Nat} (h:NoLit b k) (g:∀ n,¬ LitIs b k n):NoLit b (k+1):=fun k' n hk hl=>by
 rcases Nat.lt_or_ge k' k with h1 | h1
 · exact h k' n h1 hl
 · have:k'=k:=by omega
   subst this
   exact g n hl
theorem noLit_great {b k r:Nat} (h1:1≤k) (hr:floatBits .mul .f64 b (powT k)=some r) (hN:NoLit b k) (hg:∀ V:Nat,V≤1000000000000000→¬ IsI (flW r) V):∀ l n,¬ LitIs b l n:=by
 intro l n hl
 rcases Nat.lt_trichotomy l k with c | c | c
 · exact hN l n c hl
 · subst c
   obtain ⟨r',V,e1,_,e3,e4⟩:=hl.floor
   rw [hr] at e1
   injection e1 with e1
   subst e1
   have:=hl.2.2.1
   exact hg V (by omega) e3
 · obtain ⟨r',V,e1,_,e3,e4⟩:=hl.far h1 c
   rw [hr] at e1
   injection e1 with e1
   subst e1
   exact hg V e4 e3
theorem isI_inj {b:Nat} {M N:Int} (h:IsI b M) (g:IsI b N):M=N:=by
 have h1:=isI_toInt h
 have h2:=isI_toInt g
 rw [h1] at h2
 exact Option.some.inj h2
theorem gt_not {N:Nat} {V:Nat} (hV:V≤1000000000000000) (h:IsI N V):fd.order N w15≠some .gt:=by
 rw [isI_order h w15_int]
 intro e
 injection e with e
 rw [Int.compare_eq_gt] at e
 omega
theorem cand_parse (m k:Nat) (h1:1≤k) (h6:k≤6):(m<1000000000000000∧rpB (litS m k)=quoW m k∧rpF (litS m k)=0)∨(1000000000000000≤m∧rpB (litS m k)=0∧rpF (litS m k)=4):=by
 rcases Nat.lt_or_ge m 1000000000000000 with h | h
 · exact .inl ⟨h,lit_parse h h1 h6⟩
 · exact .inr ⟨h,lit_bad h h6⟩
theorem lit_short {m k:Nat} (hm:m<10000000000000000) (h6:k≤6):(litS m k).length≤1048576:=by
 rw [lit_len]
 have:Lib.nDigits (m / 10 ^ k)≤15+1:=nDigits_le (Nat.lt_of_le_of_lt (Nat.div_le_self _ _) hm)
 omega
theorem run_arr3 (V:Int) (W:World):(Instr.build 248 #[(0,.int .i64 (V - 1)),(1,.int .i64 V),(2,.int .i64 (V+1))]).run Tryz.prog W = .ok (.agg #[.int .i64 (V - 1),.int .i64 V,.int .i64 (V+1)]) W:=by kernel_rfl
theorem run_at0 (a b c:Int) (W:World):(Instr.index 248 (.agg #[.int .i64 a,.int .i64 b,.int .i64 c]) (.int .i64 0)).run Tryz.prog W = .ok (.int .i64 a) W:=by kernel_rfl
theorem run_at1 (a b c:Int) (W:World):(Instr.index 248 (.agg #[.int .i64 a,.int .i64 b,.int .i64 c]) (.int .i64 1)).run Tryz.prog W = .ok (.int .i64 b) W:=by kernel_rfl
theorem run_at2 (a b c:Int) (W:World):(Instr.index 248 (.agg #[.int .i64 a,.int .i64 b,.int .i64 c]) (.int .i64 2)).run Tryz.prog W = .ok (.int .i64 c) W:=by kernel_rfl
theorem run_at (V:Int) (j:Nat) (hj:j<3) (W:World):(Instr.index 248 (.agg #[.int .i64 (V - 1),.int .i64 V,.int .i64 (V+1)]) (.int .i64 (j:Int))).run Tryz.prog W = .ok (.int .i64 (V - 1+(j:Int))) W:=by
 have:j=0∨j=1∨j=2:=by omega
 rcases this with rfl | rfl | rfl
 · have:=run_at0 (V - 1) V (V+1) W
   rw [show V - 1+((0:Nat):Int)=V - 1 by omega]
   exact this
 · have:=run_at1 (V - 1) V (V+1) W
   rw [show V - 1+((1:Nat):Int)=V by omega]
   exact this
 · have:=run_at2 (V - 1) V (V+1) W
   rw [show V - 1+((2:Nat):Int)=V+1 by omega]
   exact this
end
section
theorem kof (a:Nat) (w:World):Calls Tryz.prog 229 #[.int .u64 (a:Int)] w fun e w'=>e = .returned (.float .f64 a)∧w=w':=by
 have:=pof_any (a:Int) w
 rw [Int.toNat_natCast] at this
 exact this
set_option maxRecDepth 100000 in
set_option maxHeartbeats 3200000 in
theorem rprint_any (b:Nat) (hb:b<18446744073709551616) (w:World) (ht:Tab w):
  Calls Tryz.prog 200 #[.int .u64 (b:Int)] w fun e w'=>∃ s z,e = .returned (.tuple #[.string (str s),.int .i64 z])∧PSpec (toN b) s z∧Below w.heap.size w w':=by
 obtain ⟨c,hc⟩:∃ c,c=toN b:=⟨_,rfl⟩
 have hcl:c<18446744073709551616:=by
  rw [hc];unfold toN;split <;> omega
 have g1:=fun W=>kcanon (a:=b) (r:=c) W hc.symm
 have g2:=fun W=>kof c W
 have HPS:=Lib.hid hc
 rw [← hc]
 clear hc hb
 have hord:=nanW_iff c
 cases hnan:nanW c with
 | true=>
   have HNL:=Lib.hid (show ∀ k n,¬ LitIs c k n from fun k n h=>by have:=h.bound.2.1;rw [hnan] at this;cases this)
   rw [hnan,if_pos rfl] at hord
   clear hnan hcl
   go_enter Tryz.func200,Tryz.ntmps200
   go_wp2_with (first
    | (go_at_call 199;(with_reducible refine (g1 _).mono ?_);rintro e w' ⟨rfl,rfl⟩)
    | (go_at_call 229;(with_reducible refine (g2 _).mono ?_);rintro e w' ⟨rfl,rfl⟩))
   go_ret2
   exact ⟨[],2,rfl,.inr ⟨rfl,rfl,HNL.out⟩,Below.refl _ _⟩
 | false=>
   rw [hnan,if_neg (by decide)] at hord
   by_cases h63:c<9223372036854775808
   · have i63:¬ (9223372036854775808:Int)≤c:=by omega
     have horder:=fun (h:fd.order c w15≠some .lt)=>(fun k n hl=>h (LitIs.bound hl).1:∀ k n,¬ LitIs c k n)
     obtain ⟨B,hB⟩:=big_is
     have hov:=order_val hB (x:=c) (y:=w15) hnan (by decide)
     rcases hcmp:compare (val B (fd.read c)) (val B (fd.read w15)) with _ | _ | _
     ·
      rw [hcmp] at hov
      have ho:FloatKind.f64.format.order c 4831355200913801216=some .lt:=hov
      have hnum:∃ m i,fd.read c = .number false m i:=by
       cases hr:fd.read c with
       | nan s p=>unfold nanW at hnan;rw [hr] at hnan;cases hnan
       | infinity s=>
         cases s with
         | true=>
           have h1:=read_inf hcl hr
           rw [fd_inf] at h1
           unfold Ieee.Format.word at h1
           rw [if_pos rfl,fd_sw] at h1
           omega
         | false=>
           have h1:fd.order c w15=some .gt:=by
            unfold Ieee.Format.order
            rw [hr,w15_read]
            simp only [Ieee.Datum.order,Bool.false_eq_true,if_false]
           exact absurd (hov.symm.trans h1) (by decide)
       | number s m i=>
         cases s with
         | false=>exact ⟨m,i,rfl⟩
         | true=>
           have:=(read_canon hcl hr).1
           unfold Ieee.Format.word at this
           rw [if_pos rfl,fd_sw] at this
           omega
      obtain ⟨m,i,hrd⟩:=hnum
      have HLT:=Lib.hid (And.intro hrd hov)
      have I63:=Lib.hid i63
      clear hov hcmp hrd hnan h63 hcl horder hB
      go_enter Tryz.func200,Tryz.ntmps200
      go_upto_region 3 with (first
       | (go_at_call 199;(with_reducible refine (g1 _).mono ?_);rintro e w' ⟨rfl,rfl⟩)
       | (go_at_call 229;(with_reducible refine (g2 _).mono ?_);rintro e w' ⟨rfl,rfl⟩))
      go_cut [26] (fun sv wx=>sv = .bool false∧wx=w)
      case first=>
       go_wp2_with fail
       go_meet
       case rel=>exact ⟨by rw [decide_eq_false (by have:=I63.out;omega)],rfl⟩
      case rest=>
       obtain ⟨rfl,hwx⟩:=hcut
       have hwx':=hwx.symm
       subst hwx'
       clear hwx i63
       go_wp2_with fail
       go_loopw [5] (fun kv wr=>∃ k:Nat,1≤k∧k≤7∧kv = .int .i64 k∧Below w.heap.size w wr∧NoLit c k) (fun kv _=>7 - (intOf kv).toNat)
       case atStart=>exact ⟨1,by omega,by omega,rfl,Below.refl _ _,noLit_one c⟩
       case round=>
        obtain ⟨k,hk1,hk7,rfl,hbw,hnl⟩:=hrel
        have HB:=Lib.hid hbw
        have HN:=Lib.hid hnl
        clear hbw hnl
        by_cases hk6:k≤6
        · have ik6:(k:Int)≤6:=by omega
          have hwk:IntKind.i64.wrap ((k:Int)+1)=(k:Int)+1:=by rw [IntKind.wrap_i64];omega
          obtain ⟨r,c',e',hmul,hread⟩:=prod_gen HLT.out.1 HLT.out.2 hk1 hk6
          have hrn:nanW r=false:=by unfold nanW;rw [hread];rfl
          have hrun:=fun w t=>run_float_arith (P:=Tryz.prog) w .mul t .f64 _ _ _ hmul
          have hfl:=floor_or hread
          have hflo:=floor_any r hrn
          obtain ⟨N,hN⟩:∃ N,N=flW r:=⟨_,rfl⟩
          rw [← hN] at hfl
          have HF:=Lib.hid (show ∀ W,Calls Tryz.prog 205 #[.float .f64 r] W fun e w'=>e = .returned (.float .f64 N)∧W=w' from fun W=>by rw [hN];exact hflo W)
          have HMU:=Lib.hid hmul
          by_cases hgt:fd.order N w15=some .gt
          · have hog:FloatKind.f64.format.order N 4831355200913801216=some .gt:=hgt
            have HNL:=Lib.hid (noLit_great hk1 hmul HN.out (fun V hV hI=>gt_not hV (by rw [hN];exact hI) hgt))
            clear hmul hread hrn hfl hflo hN hgt
            go_wp2_with (first
             | (go_at_call 230;refine (rpowers_any k (by omega) _).mono ?_;rintro e w' ⟨rfl,rfl⟩)
             | (go_at_call 205;(with_reducible refine (HF.out _).mono ?_);rintro e w' ⟨rfl,rfl⟩))
            go_ret2
            exact ⟨[],2,rfl,.inr ⟨rfl,rfl,HNL.out⟩,HB.out⟩
          · obtain ⟨V,hV53,hI⟩:∃ V:Nat,V<9007199254740992∧IsI N V:=by
             rcases hfl with ⟨h1,h2⟩ | ⟨_,h2,_⟩
             · exact ⟨_,h1,h2⟩
             · exact absurd h2 hgt
            have hV15:V≤1000000000000000:=by
             rw [isI_order hI w15_int] at hgt
             rcases Nat.lt_or_ge 1000000000000000 V with h | h
             · exfalso
               apply hgt
               rw [Int.compare_eq_gt.2 (by omega)]
             · exact h
            have hon:∃ o,FloatKind.f64.format.order N 4831355200913801216=some o∧o ≠ .gt:=⟨_,isI_order hI w15_int,fun e=>hgt (by rw [isI_order hI w15_int,e])⟩
            obtain ⟨o,hoo,hog⟩:=hon
            have hob:((some o:Option Ordering)==some .gt)=false:=by cases o <;> first | rfl | exact absurd rfl hog
            have hcv:∀ w,(convert 225 3 (.float .f64 N)).run Tryz.prog w = .ok (.int .i64 (V:Int)) w:=fun w=>run_convert_float_int (P:=Tryz.prog) w 225 3 .f64 .i64 N V (by kernel_rfl) Tryz.underlying3 (by
             unfold floatToIntVal FloatKind.decode
             rw [show (FloatKind.f64.format.read N).toInt .zero=some (V:Int) from isI_toInt hI]
             have e1:IntKind.i64.min = -9223372036854775808:=by decide
             have e2:IntKind.i64.max=9223372036854775807:=by decide
             simp only [e1,e2]
             rw [if_pos ⟨by omega,by omega⟩])
            have HFL:=Lib.hid (show ∀ n,LitIs c k n→n=V∨n=V+1 from fun n hl=>by
             obtain ⟨r',V',e1,_,e3,e4⟩:=hl.floor
             rw [HMU.out] at e1
             injection e1 with e1
             subst e1
             rw [← hN] at e3
             have:=isI_inj hI e3
             omega)
            have hv1:IntKind.i64.wrap ((V:Int) - 1)=(V:Int) - 1:=by rw [IntKind.wrap_i64];omega
            have hv2:IntKind.i64.wrap ((V:Int)+1)=(V:Int)+1:=by rw [IntKind.wrap_i64];omega
            have harr:=run_arr3 V
            clear hmul hread hrn hfl hflo hN hgt hI hog hV53
            go_wp2_with (first
             | (go_at_call 230;refine (rpowers_any k (by omega) _).mono ?_;rintro e w' ⟨rfl,rfl⟩)
             | (go_at_call 205;(with_reducible refine (HF.out _).mono ?_);rintro e w' ⟨rfl,rfl⟩))
            go_loopw [47] (fun xv wq=>∃ j:Nat,j≤3∧xv = .int .i64 j∧Below w.heap.size w wq∧∀ i:Nat,i<j→∀ m:Nat,(m:Int)=(V:Int) - 1+(i:Int)→¬ LitIs c k m) (fun xv _=>3 - (intOf xv).toNat)
            case atStart=>exact ⟨0,by omega,rfl,HB.out,fun i hi=>by omega⟩
            case round=>
             obtain ⟨j,hj3,rfl,hbq,htried⟩:=hrel
             have HQ:=Lib.hid hbq
             have HT:=Lib.hid htried
             clear hbq htried
             by_cases hj:j<3
             · have ij:(j:Int)<3:=by omega
               have hat:=run_at V j hj
               have hwj:IntKind.i64.wrap ((j:Int)+1)=(j:Int)+1:=by rw [IntKind.wrap_i64];omega
               by_cases hneg:(V:Int) - 1+(j:Int)<0
               · have HJ:=Lib.hid (show ∀ i:Nat,i<j+1→∀ m:Nat,(m:Int)=(V:Int) - 1+(i:Int)→¬ LitIs c k m from fun i hi m hm=>by omega)
                 go_wp2_with fail
                 go_roundw
                 case rel=>exact ⟨j+1,by omega,by go_num,HQ.out,HJ.out⟩
                 case measure=>simp [intOf];omega
               · obtain ⟨m,hm⟩:∃ m:Nat,(m:Int)=(V:Int) - 1+(j:Int):=⟨((V:Int) - 1+(j:Int)).toNat,by omega⟩
                 rw [← hm] at hat hneg
                 have hm16:m<10000000000000000:=by omega
                 have hls:=lit_short hm16 hk6
                 have hstep:=fun (hno:¬ LitIs c k m)=>(fun i hi m' hm'=>by
                  rcases Nat.lt_or_ge i j with h | h
                  · exact HT.out i h m' hm'
                  · have:i=j:=by omega
                    subst this
                    have:m'=m:=by omega
                    subst this
                    exact hno:∀ i:Nat,i<j+1→∀ m':Nat,(m':Int)=(V:Int) - 1+(i:Int)→¬ LitIs c k m')
                 obtain ⟨L,hL⟩:∃ L,L=litS m k:=⟨_,rfl⟩
                 have HLt:=Lib.hid (show ∀ W,Tab W→Calls Tryz.prog 231 #[.int .i64 (m:Int),.int .i64 (k:Int)] W fun e w'=>e = .returned (.string (str L))∧Below W.heap.size W w' from fun W hW=>by rw [hL];exact literal_any m k hm16 hk1 hk6 W hW)
                 have HTB:=Lib.hid (ht.below HQ.out)
                 obtain ⟨qv,hqv⟩:∃ qv,qv=rpB L:=⟨_,rfl⟩
                 obtain ⟨qz,hqz⟩:∃ qz,qz=rpF L:=⟨_,rfl⟩
                 have HPr:=Lib.hid (show ∀ W,Calls Tryz.prog 214 #[.string (str L)] W fun e w'=>e = .returned (.tuple #[.int .u64 (qv:Int),.int .i64 qz])∧Below W.heap.size W w' from fun W=>by rw [hqv,hqz];exact rparse_any L (by rw [hL];exact hls) W)
                 have hnn:¬ (m:Int)<0:=by omega
                 have hcp:=cand_parse m k hk1 hk6
                 rw [← hL,← hqv,← hqz] at hcp
                 rcases hcp with ⟨h15,hq1,hq2⟩ | ⟨h15,hq1,hq2⟩
                 · by_cases hqc:qv=c
                   · have HFound:=Lib.hid (show PSpec c L 0 from .inl ⟨rfl,k,m,⟨hk1,hk6,h15,by rw [← hq1,hqc]⟩,hL,HN.out⟩)
                     have hqb:((qv:Int)==c)=true:=beq_iff_eq.2 (by omega)
                     subst hq2
                     clear hm hm16 hls hstep hL hqv hqz hneg h15 hq1 hqc
                     go_wp2_with (first
                      | (go_at_call 231
                         go_must ((with_reducible refine (HLt.out _ HTB.out).mono ?_)
                                  rintro e w2 ⟨rfl,hb2⟩
                                  have HQ1:=Lib.hid (below_then HQ.out hb2)
                                  clear hb2))
                      | (go_at_call 214
                         go_must ((with_reducible refine (HPr.out _).mono ?_)
                                  rintro e w3 ⟨rfl,hb3⟩
                                  have HQ2:=Lib.hid (below_then HQ1.out hb3)
                                  clear hb3)))
                     go_ret2
                     exact ⟨L,0,rfl,HFound.out,HQ2.out⟩
                   · have hqb:((qv:Int)==c)=false:=beq_false_of_ne (by omega)
                     have HJ:=Lib.hid (hstep (fun hl=>hqc (by rw [hq1];exact hl.2.2.2)))
                     subst hq2
                     clear hm hm16 hls hstep hL hqv hqz hneg h15 hq1 hqc
                     go_wp2_with (first
                      | (go_at_call 231
                         go_must ((with_reducible refine (HLt.out _ HTB.out).mono ?_)
                                  rintro e w2 ⟨rfl,hb2⟩
                                  have HQ1:=Lib.hid (below_then HQ.out hb2)
                                  clear hb2))
                      | (go_at_call 214
                         go_must ((with_reducible refine (HPr.out _).mono ?_)
                                  rintro e w3 ⟨rfl,hb3⟩
                                  have HQ2:=Lib.hid (below_then HQ1.out hb3)
                                  clear hb3)))
                     go_roundw
                     case rel=>exact ⟨j+1,by omega,by go_num,HQ2.out,HJ.out⟩
                     case measure=>simp [intOf];omega
                 · have HJ:=Lib.hid (hstep (fun hl=>by have:=hl.2.2.1;omega))
                   subst hq2
                   clear hm hm16 hls hstep hL hqv hqz hneg h15 hq1
                   go_wp2_with (first
                    | (go_at_call 231
                       go_must ((with_reducible refine (HLt.out _ HTB.out).mono ?_)
                                rintro e w2 ⟨rfl,hb2⟩
                                have HQ1:=Lib.hid (below_then HQ.out hb2)
                                clear hb2))
                    | (go_at_call 214
                       go_must ((with_reducible refine (HPr.out _).mono ?_)
                                rintro e w3 ⟨rfl,hb3⟩
                                have HQ2:=Lib.hid (below_then HQ1.out hb3)
                                clear hb3)))
                   go_roundw
                   case rel=>exact ⟨j+1,by omega,by go_num,HQ2.out,HJ.out⟩
                   case measure=>simp [intOf];omega
             · have ij:¬ (j:Int)<3:=by omega
               have hj':j=3:=by omega
               have HNN:=Lib.hid (noLit_succ HN.out (fun n hl=>by
                rcases HFL.out n hl with e | e
                · exact HT.out 1 (by omega) n (by omega) hl
                · exact HT.out 2 (by omega) n (by omega) hl))
               clear hj'
               go_wp2_with fail
               go_roundw
               case rel=>exact ⟨k+1,by omega,by omega,by go_num,HQ.out,HNN.out⟩
               case measure=>simp [intOf];omega
        · have ik6:¬ (k:Int)≤6:=by omega
          have hk7':k=7:=by omega
          have HNL:=Lib.hid (noLit_all (hk7' ▸ HN.out))
          clear hk7'
          go_wp2_with fail
          go_ret2
          exact ⟨[],2,rfl,.inr ⟨rfl,rfl,HNL.out⟩,HB.out⟩
     · rw [hcmp] at hov
       have ho:FloatKind.f64.format.order c 4831355200913801216=some .eq:=hov
       have HNL:=Lib.hid (horder (by rw [hov];simp))
       clear hov hcmp horder hB hnan hcl h63
       go_enter Tryz.func200,Tryz.ntmps200
       go_wp2_with (first
        | (go_at_call 199;(with_reducible refine (g1 _).mono ?_);rintro e w' ⟨rfl,rfl⟩)
        | (go_at_call 229;(with_reducible refine (g2 _).mono ?_);rintro e w' ⟨rfl,rfl⟩))
       go_ret2
       exact ⟨[],2,rfl,.inr ⟨rfl,rfl,HNL.out⟩,Below.refl _ _⟩
     · rw [hcmp] at hov
       have ho:FloatKind.f64.format.order c 4831355200913801216=some .gt:=hov
       have HNL:=Lib.hid (horder (by rw [hov];simp))
       clear hov hcmp horder hB hnan hcl h63
       go_enter Tryz.func200,Tryz.ntmps200
       go_wp2_with (first
        | (go_at_call 199;(with_reducible refine (g1 _).mono ?_);rintro e w' ⟨rfl,rfl⟩)
        | (go_at_call 229;(with_reducible refine (g2 _).mono ?_);rintro e w' ⟨rfl,rfl⟩))
       go_ret2
       exact ⟨[],2,rfl,.inr ⟨rfl,rfl,HNL.out⟩,Below.refl _ _⟩
   · have i63:(9223372036854775808:Int)≤c:=by omega
     have HNL:=Lib.hid (show ∀ k n,¬ LitIs c k n from fun k n h=>h63 h.bound.2.2)
     clear h63 hcl hnan
     go_enter Tryz.func200,Tryz.ntmps200
     go_wp2_with (first
      | (go_at_call 199;(with_reducible refine (g1 _).mono ?_);rintro e w' ⟨rfl,rfl⟩)
      | (go_at_call 229;(with_reducible refine (g2 _).mono ?_);rintro e w' ⟨rfl,rfl⟩))
     go_ret2
     exact ⟨[],2,rfl,.inr ⟨rfl,rfl,HNL.out⟩,Below.refl _ _⟩
end
end Go.Proofs.YtiacalnkmnckjaaGreatDoor
section
namespace Go.Proofs.YtiacalnkmnckjaaGreatDoor
open Go.RowKit Go.As Ieee
theorem PSpec.total (c:Nat):(∃ t,PSpec c t 0)∨PSpec c [] 2:=by
 have step:∀ k,NoLit c k→(∃ t,PSpec c t 0)∨NoLit c (k+1):=fun k h=>by
  by_cases g:∃ n,LitIs c k n
  · obtain ⟨n,hn⟩:=g
    exact .inl ⟨litS n k,.inl ⟨rfl,k,n,hn,rfl,h⟩⟩
  · exact .inr (noLit_succ h (fun n hn=>g ⟨n,hn⟩))
 have all:∀ k,(∃ t,PSpec c t 0)∨NoLit c (k+1):=fun k=>by
  induction k with
  | zero=>exact .inr (noLit_one c)
  | succ k ih=>exact ih.elim .inl (step (k+1))
 rcases all 6 with h | h
 · exact .inl h
 · exact .inr (.inr ⟨rfl,rfl,noLit_all h⟩)
theorem PSpec.len {c:Nat} {t:List UInt8} {z:Int} (h:PSpec c t z):t.length≤1048576:=by
 rcases h with ⟨_,k,n,h1,rfl,_⟩ | ⟨_,rfl,_⟩
 · exact lit_short (by have:=h1.2.2.1;omega) h1.2.1
 · simp
end Go.Proofs.YtiacalnkmnckjaaGreatDoor
end
namespace Go.Proofs.YtiacalnkmnckjaaGreatDoor
open Go.RowKit Go.As
section
theorem allN_run (l:List UInt8):(runL (fun c=>letterB c || digitB c) l 0=l.length)↔allN l=true:=by
 simp only [runL,allN,List.drop_zero,Nat.zero_add]
 constructor
 · intro h
   rw [List.all_eq_true]
   have hp:=List.takeWhile_prefix (l:=l) (fun c=>letterB (c.toNat:Int) || digitB (c.toNat:Int))
   have:=hp.eq_of_length h
   intro x hx
   rw [← this] at hx
   have:=List.all_takeWhile (p:=fun c:UInt8=>letterB (c.toNat:Int) || digitB (c.toNat:Int)) (l:=l)
   rw [List.all_eq_true] at this
   exact this x hx
 · intro h
   rw [List.all_eq_true] at h
   congr 1
   induction l with
   | nil=>rfl
   | cons c r ih=>
     have hc:(letterB (c.toNat:Int) || digitB (c.toNat:Int))=true:=h c (by simp)
     rw [List.takeWhile_cons,if_pos hc]
     rw [ih (fun x hx=>h x (by simp [hx]))]
set_option maxHeartbeats 800000 in
theorem name_any (l:List UInt8) (w:World) (hl:l.length≤maxLen):Calls Tryz.prog 120 #[.string (str l)] w fun e w'=>e = .returned (.bool (nameB l))∧w=w':=by
 have hrun:=run_any 190 (fun c=>letterB c || digitB c) l 0 w hl (by omega) (fun args w=>by simp [go_sem]) (fun c w=>name1_any c w)
 have HR:=Lib.hid hrun
 clear hrun
 unfold maxLen at hl
 by_cases h0:l.length<1
 · have:l=[]:=List.eq_nil_of_length_eq_zero (by omega)
   subst this
   go_enter Tryz.func120,Tryz.ntmps120
   go_wp2_with fail
   go_ret
   exact ⟨ret_bool (by simp [nameB]),rfl⟩
 have hne:l.isEmpty=false:=by cases l <;> simp_all
 have hne':(l==[])=false:=by cases l <;> simp_all
 by_cases h1:24<l.length
 · go_enter Tryz.func120,Tryz.ntmps120
   go_wp2_with fail
   go_ret
   exact ⟨ret_bool (by simp [nameB,h1]),rfl⟩
 have h00:0<l.length:=by omega
 cases hL:letterB (l[0].toNat:Int)
 · have HL:=Lib.hid hL
   clear hL
   go_enter Tryz.func120,Tryz.ntmps120
   go_wp2_with (go_at_call 159;refine (letter_any _ _).mono ?_;rintro e w' ⟨rfl,rfl⟩;have hL:=HL.out)
   go_ret
   exact ⟨ret_bool (by simp only [nameB,head_get h00,HL.out];simp),rfl⟩
 cases hw:wordB l
 all_goals
  have HL:=Lib.hid hL
  have HW:=Lib.hid hw
  clear hL hw
  go_enter Tryz.func120,Tryz.ntmps120
  go_wp2_with (first | (go_at_call 159;refine (letter_any _ _).mono ?_;rintro e w' ⟨rfl,rfl⟩;have hL:=HL.out) | (go_at_call 189;refine (word_any _ _).mono ?_;rintro e w1 ⟨rfl,rfl⟩;have hw:=HW.out) | (go_at_call 157;refine (HR.out).mono ?_;rintro e w1 ⟨rfl,rfl⟩))
 · go_ret
   refine ⟨ret_bool ?_,rfl⟩
   rw [Bool.eq_iff_iff]
   simp only [nameB,head_get h00,HL.out,HW.out,if_neg h0,if_neg h1]
   simp
   rw [← allN_run]
   omega
 · go_ret
   exact ⟨ret_bool (by simp only [nameB,head_get h00,HL.out,HW.out];simp),rfl⟩
end
end Go.Proofs.YtiacalnkmnckjaaGreatDoor
