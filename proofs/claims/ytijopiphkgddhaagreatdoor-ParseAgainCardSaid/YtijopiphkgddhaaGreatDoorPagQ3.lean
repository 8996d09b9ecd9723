/- Texts of this proof, one behind the other. Conditions: those in each theorem. -/
import Derived.Test.YtijopiphkgddhaaGreatDoorPagQ1
import Derived.Test.YtijopiphkgddhaaGreatDoorPagQ2
import Derived.Lib.IndexMore
import Derived.Deep.CutBlock
import Derived.Deep.DeepCutAuto
import Derived.WalkMore
import Derived.Deep.MidRow
import Derived.Laws.Rows
import Derived.Deep.Draws
import Derived.Tactics
import Derived.Shelf.Strings.Builder1
import Derived.Shelf.Strings.Builder2
import Derived.Shelf.Strings.BuilderF
import Derived.Shelf.Strings.BuilderK
import Derived.Shelf.Strings.Builder2Cap
import Derived.Shelf.Strconv.Itoa0
import Derived.Shelf.Strconv.Itoa1
import Derived.Shelf.LaysM
import Derived.Shelf.Strconv.Itoa2
import Derived.Shelf.Strconv.Itoa3
import Derived.Shelf.Strconv.Itoa4
import Derived.Shelf.Strings.Search1
import Derived.Shelf.Strings.Search2
import Derived.Shelf.Strings.Prefix
import Derived.Shelf.Bits.Mul64
import Derived.Shelf.Strings.Repeat
import Derived.Shelf.Strings.BuilderCap
import Derived.Test.YtijopiphkgddhaaGreatDoorProg
import Derived.Laws.Externs
import Derived.Test.YtijopiphkgddhaaGreatDoorRows
import Derived.Handy
import Derived.WalkLawsBesides
import Derived.Sort.Grow
import Derived.Lib.ItoaLen
set_option linter.unusedVariables false
set_option linter.unusedSimpArgs false
namespace Go.Proofs.YtijopiphkgddhaaGreatDoor
open Go.RowKit Go.As
section
theorem kL (s:List UInt8) (j:Nat) (hj:j<s.length) (W:World):(Instr.index 9 (.string (str s)) (.int .i64 (j:Int))).run Tryz.prog W = .ok (.int .u8 (s[j].toNat:Nat)) W:=by
 rw [run_index_string W 9 (str s) .i64 _ Tryz.underlying9,dif_pos ⟨by omega,by rw [str_size];omega⟩]
 simp only [Int.toNat_natCast,str_get]
set_option maxRecDepth 100000 in
theorem aGi (W:World):(Instr.build 177 #[(0,.float .f64 4607182418800017408),(1,.float .f64 4621819117588971520),(2,.float .f64 4636737291354636288),(3,.float .f64 4652007308841189376),(4,.float .f64 4666723172467343360),(5,.float .f64 4681608360884174848),(6,.float .f64 4696837146684686336)]).run Tryz.prog W = .ok (.agg #[.float .f64 4607182418800017408,.float .f64 4621819117588971520,.float .f64 4636737291354636288,.float .f64 4652007308841189376,.float .f64 4666723172467343360,.float .f64 4681608360884174848,.float .f64 4696837146684686336]) W:=by kernel_rfl
set_option maxRecDepth 100000 in
theorem aI1 (W:World):(Instr.index 177 (.agg #[.float .f64 4607182418800017408,.float .f64 4621819117588971520,.float .f64 4636737291354636288,.float .f64 4652007308841189376,.float .f64 4666723172467343360,.float .f64 4681608360884174848,.float .f64 4696837146684686336]) (.int .i64 0)).run Tryz.prog W = .ok (.float .f64 4607182418800017408) W:=by kernel_rfl
set_option maxRecDepth 100000 in
theorem aI3 (W:World):(Instr.index 177 (.agg #[.float .f64 4607182418800017408,.float .f64 4621819117588971520,.float .f64 4636737291354636288,.float .f64 4652007308841189376,.float .f64 4666723172467343360,.float .f64 4681608360884174848,.float .f64 4696837146684686336]) (.int .i64 1)).run Tryz.prog W = .ok (.float .f64 4621819117588971520) W:=by kernel_rfl
set_option maxRecDepth 100000 in
theorem aIr (W:World):(Instr.index 177 (.agg #[.float .f64 4607182418800017408,.float .f64 4621819117588971520,.float .f64 4636737291354636288,.float .f64 4652007308841189376,.float .f64 4666723172467343360,.float .f64 4681608360884174848,.float .f64 4696837146684686336]) (.int .i64 2)).run Tryz.prog W = .ok (.float .f64 4636737291354636288) W:=by kernel_rfl
set_option maxRecDepth 100000 in
theorem aIy (W:World):(Instr.index 177 (.agg #[.float .f64 4607182418800017408,.float .f64 4621819117588971520,.float .f64 4636737291354636288,.float .f64 4652007308841189376,.float .f64 4666723172467343360,.float .f64 4681608360884174848,.float .f64 4696837146684686336]) (.int .i64 3)).run Tryz.prog W = .ok (.float .f64 4652007308841189376) W:=by kernel_rfl
set_option maxRecDepth 100000 in
theorem aI6 (W:World):(Instr.index 177 (.agg #[.float .f64 4607182418800017408,.float .f64 4621819117588971520,.float .f64 4636737291354636288,.float .f64 4652007308841189376,.float .f64 4666723172467343360,.float .f64 4681608360884174848,.float .f64 4696837146684686336]) (.int .i64 4)).run Tryz.prog W = .ok (.float .f64 4666723172467343360) W:=by kernel_rfl
set_option maxRecDepth 100000 in
theorem aI2 (W:World):(Instr.index 177 (.agg #[.float .f64 4607182418800017408,.float .f64 4621819117588971520,.float .f64 4636737291354636288,.float .f64 4652007308841189376,.float .f64 4666723172467343360,.float .f64 4681608360884174848,.float .f64 4696837146684686336]) (.int .i64 5)).run Tryz.prog W = .ok (.float .f64 4681608360884174848) W:=by kernel_rfl
set_option maxRecDepth 100000 in
theorem aIg (W:World):(Instr.index 177 (.agg #[.float .f64 4607182418800017408,.float .f64 4621819117588971520,.float .f64 4636737291354636288,.float .f64 4652007308841189376,.float .f64 4666723172467343360,.float .f64 4681608360884174848,.float .f64 4696837146684686336]) (.int .i64 6)).run Tryz.prog W = .ok (.float .f64 4696837146684686336) W:=by kernel_rfl
set_option maxRecDepth 100000 in
set_option maxHeartbeats 1600000 in
theorem oD (k:Nat) (hk:k≤6) (w:World):Calls Tryz.prog 109 #[.int .i64 (k:Int)] w fun e w'=>e = .returned (.float .f64 (fX k))∧w=w':=by
 have hbd:=aGi
 rcases (show k=0∨k=1∨k=2∨k=3∨k=4∨k=5∨k=6 by omega) with rfl | rfl | rfl | rfl | rfl | rfl | rfl
 · have hix:=aI1
   go_enter Tryz.func109,Tryz.ntmps109
   go_wp2_with fail
   go_ret
   exact ⟨rfl,rfl⟩
 · have hix:=aI3
   go_enter Tryz.func109,Tryz.ntmps109
   go_wp2_with fail
   go_ret
   exact ⟨rfl,rfl⟩
 · have hix:=aIr
   go_enter Tryz.func109,Tryz.ntmps109
   go_wp2_with fail
   go_ret
   exact ⟨rfl,rfl⟩
 · have hix:=aIy
   go_enter Tryz.func109,Tryz.ntmps109
   go_wp2_with fail
   go_ret
   exact ⟨rfl,rfl⟩
 · have hix:=aI6
   go_enter Tryz.func109,Tryz.ntmps109
   go_wp2_with fail
   go_ret
   exact ⟨rfl,rfl⟩
 · have hix:=aI2
   go_enter Tryz.func109,Tryz.ntmps109
   go_wp2_with fail
   go_ret
   exact ⟨rfl,rfl⟩
 · have hix:=aIg
   go_enter Tryz.func109,Tryz.ntmps109
   go_wp2_with fail
   go_ret
   exact ⟨rfl,rfl⟩
theorem aMu (s:List UInt8) (hs:s.length≤1048576) (w:World):Calls Tryz.prog 131 #[.string (str s),.string ⟨#[46]⟩] w fun e w'=>e = .returned (.tuple #[.string (str (rpW s)),.string (str (rpP s)),.bool (rpO s)])∧∃ q,w'=w.drewN q:=by
 have hix:=Tryz.stringslite_Index_one (str s) 46
 rw [aF8] at hix
 rcases xY s with h | ⟨X,P,rfl,h⟩
 · have hr:rpW s=s∧rpP s=[]∧rpO s=false:=by unfold rpW rpP rpO;rw [aM9 h];exact ⟨rfl,rfl,rfl⟩
   rw [hr.1,hr.2.1,hr.2.2]
   rw [nR s h] at hix
   clear h hr
   go_enter Tryz.func131,Tryz.ntmps131
   go_wp2_with (go_at_call 146;refine (hix _).mono ?_;rintro e w' ⟨rfl,rfl⟩)
   go_ret3
   exact ⟨rfl,0,rfl⟩
 · have hr:rpW (X++46::P)=X∧rpP (X++46::P)=P∧rpO (X++46::P)=true:=by unfold rpW rpP rpO;rw [aDl h];exact ⟨rfl,rfl,rfl⟩
   rw [hr.1,hr.2.1,hr.2.2]
   rw [o9 X P h] at hix
   obtain ⟨n,hn⟩:∃ n,n=X.length:=⟨_,rfl⟩
   rw [← hn] at hix
   obtain ⟨S,hS⟩:∃ S,S=X++46::P:=⟨_,rfl⟩
   rw [← hS] at hix ⊢
   have hsl:S.length≤1048576:=by rw [hS];exact hs
   have hnl:n+1≤S.length:=by rw [hS,hn];simp
   have hx1:(S.take n)=X:=by rw [hS,hn];simp
   have hx2:(S.drop (n+1))=P:=by rw [hS,hn];simp
   have e9:List.take (S.length - (n+1)) (List.drop (n+1) S)=P:=by rw [List.take_of_length_le (by rw [bI];omega)];exact hx2
   have hz1:(n:Int)≤S.length:=by omega
   have hz2:(n:Int)+1≤S.length:=by omega
   have hz3:n≤S.length:=by omega
   have hz4:(n:Int)<S.length:=by omega
   have hz5:n<S.length:=by omega
   have hz6:(0:Int)≤(n:Int)+1:=by omega
   have hwr:IntKind.i64.wrap ((n:Int)+1)=(n:Int)+1:=by rw [IntKind.wrap_i64];omega
   clear h hr hS hn hs hx2
   go_enter Tryz.func131,Tryz.ntmps131
   go_wp2_with (go_at_call 146;refine (hix _).mono ?_;rintro e w' ⟨rfl,rfl⟩)
   go_quiet (fail)
   go_wp2_with fail
   go_ret3
   exact ⟨rfl,_,rfl⟩
theorem aS4 (s:List UInt8) (hs:s.length≤1048576) (w:World):Calls Tryz.prog 107 #[.string (str s),.string ⟨#[46]⟩] w fun e w'=>e = .returned (.tuple #[.string (str (rpW s)),.string (str (rpP s)),.bool (rpO s)])∧∃ q,w'=w.drewN q:=by
 go_enter Tryz.func107,Tryz.ntmps107
 go_wp2_with (go_at_call 131;refine (aMu s hs _).mono ?_;rintro e w' ⟨rfl,q,rfl⟩)
 go_ret3
 exact ⟨rfl,q,rfl⟩
set_option maxRecDepth 100000 in
set_option maxHeartbeats 3200000 in
theorem aBo (s:List UInt8) (hs:s.length≤1048576) (w:World):
  Calls Tryz.prog 89 #[.string (str s)] w fun e w'=>e = .returned (.tuple #[.int .u64 (rpB s),.int .i64 (rpF s)])∧Below w.heap.size w w':=by
 obtain ⟨X,hX⟩:∃ X,X=rpW s:=⟨_,rfl⟩
 obtain ⟨P,hP⟩:∃ P,P=rpP s:=⟨_,rfl⟩
 obtain ⟨O,hO⟩:∃ O,O=rpO s:=⟨_,rfl⟩
 have HC:=Lib.hid (show (Lib.cut s [46]).1=X∧(Lib.cut s [46]).2.1=P∧(Lib.cut s [46]).2.2=O from ⟨hX.symm,hP.symm,hO.symm⟩)
 have HR:=Lib.hid (show lE s=(fU O X P&&(X++P).all eR)∧rpB s=(if lE s=true then arN .quo (floatOfInt .f64 (cG (X++P))) (fX P.length) else 0) from by
  unfold rpB lE;rw [hX,hP,hO];exact ⟨rfl,rfl⟩)
 have HM:=Lib.hid (And.intro trivial hs)
 clear hX hP hO hs
 go_enter Tryz.func89,Tryz.ntmps89
 go_upto_region 2 with (first
  | (go_at_call 107
     go_must (refine (aS4 s HM.out.2 _).mono ?_
              rw [show rpW s=X from HC.out.1,show rpP s=P from HC.out.2.1,show rpO s=O from HC.out.2.2]
              rintro e' w1 ⟨rfl,q,hw⟩
              have HB:=Lib.hid (show Below w.heap.size w w1 from by rw [hw];exact below_drewN (Below.refl _ _) q)
              clear hw)))
 go_cut [47] (fun sv wx=>sv = .bool (!fU O X P)∧wx=w1)
 case first=>
  cases O with
  | false=>
    have HF:=Lib.hid (show fU false X P=false from by unfold fU;exact decide_eq_false (fun h=>by simp at h))
    go_wp2_with fail
    go_meet
    case rel=>exact ⟨by rw [HF.out];rfl,rfl⟩
  | true=>
    cases X with
    | nil=>
      have HF:=Lib.hid (show fU true [] P=false from by unfold fU;exact decide_eq_false (fun h=>by simp at h))
      go_wp2_with fail
      go_meet
      case rel=>exact ⟨by rw [HF.out];rfl,rfl⟩
    | cons x r=>
      by_cases hp0:P=[]
      · subst hp0
        have HF:=Lib.hid (show fU true (x::r) []=false from by unfold fU;exact decide_eq_false (fun h=>by simp at h))
        go_wp2_with fail
        go_meet
        case rel=>exact ⟨by rw [HF.out];rfl,rfl⟩
      have hpb:(P==[])=false:=by simpa using hp0
      by_cases hp6:6<P.length
      · have h6:(6:Int)<P.length:=by omega
        have HF:=Lib.hid (show fU true (x::r) P=false from by unfold fU;exact decide_eq_false (fun h=>by have:=h.2.2.2.1;omega))
        clear hp0 hp6
        go_wp2_with fail
        go_meet
        case rel=>exact ⟨by rw [HF.out];rfl,rfl⟩
      have h6:¬ (6:Int)<P.length:=by omega
      by_cases hp15:15<(x::r).length+P.length
      · have h15:(15:Int)<(x::r).length+P.length:=by omega
        have h15':(15:Int)<r.length+1+P.length:=by simp at hp15;omega
        have HF:=Lib.hid (show fU true (x::r) P=false from by unfold fU;exact decide_eq_false (fun h=>by have:=h.2.2.2.2.1;omega))
        have hrl:r.length+1≤1048576:=by have:=aT6 s;rw [HC.out.1] at this;simp at this;have:=HM.out.2;omega
        clear hp0 hp6 hp15
        go_wp2_with fail
        go_meet
        case rel=>exact ⟨by rw [HF.out];rfl,rfl⟩
      have h15:¬ (15:Int)<r.length+1+P.length:=by simp at hp15;omega
      have h15b:r.length+1+P.length≤15:=by simp at hp15;omega
      have hidx:∀ W,(Instr.index 9 (.string (str (x::r))) (.int .i64 0)).run Tryz.prog W = .ok (.int .u8 (x.toNat:Nat)) W:=fun W=>kL (x::r) 0 (by simp) W
      by_cases hx:x=48
      · subst hx
        cases r with
        | nil=>
          have h15c:¬ (15:Int)<1+P.length:=by simp at h15b;omega
          have HF:=Lib.hid (show fU true [48] P=true from by unfold fU;exact decide_eq_true ⟨rfl,by simp,hp0,by omega,by simp at h15b ⊢;omega,by simp⟩)
          clear hp0 hp6 hp15
          go_wp2_with fail
          go_meet
          case rel=>exact ⟨by rw [HF.out];rfl,rfl⟩
        | cons y r=>
          have h15d:¬ (15:Int)<r.length+1+1+P.length:=by simp at h15b;omega
          have HF:=Lib.hid (show fU true (48::y::r) P=false from by unfold fU;exact decide_eq_false (fun h=>h.2.2.2.2.2 ⟨rfl,by simp⟩))
          clear hp0 hp6 hp15
          go_wp2_with fail
          go_meet
          case rel=>exact ⟨by rw [HF.out];rfl,rfl⟩
      · have hx48:((x.toNat:Int)==48)=false:=by
         have:x.toNat≠48:=fun e=>hx (UInt8.toNat.inj (by rw [e];rfl))
         simp;omega
        have HF:=Lib.hid (show fU true (x::r) P=true from by unfold fU;exact decide_eq_true ⟨rfl,by simp,hp0,by omega,by simp;omega,fun h=>hx (by simpa using h.1)⟩)
        clear hp0 hp6 hp15 hx
        go_wp2_with fail
        go_meet
        case rel=>exact ⟨by rw [HF.out];rfl,rfl⟩
 case rest=>
  obtain ⟨rfl,hwx⟩:=hcut
  have hwx':=hwx.symm
  subst hwx'
  clear hwx
  rcases hf:fU O X P with _ | _
  · have HK:=Lib.hid (aCm (s:=s) (by rw [HR.out.1,hf];rfl))
    simp only [Bool.not_false]
    clear hf
    go_wp2_with fail
    go_ret2
    rw [HK.out.1,HK.out.2]
    exact ⟨rfl,HB.out⟩
  · simp only [Bool.not_true]
    have hfd:O=true∧X≠[]∧P≠[]∧P.length≤6∧X.length+P.length≤15∧¬ (X.head?=some 48∧X≠[48]):=by unfold fU at hf;exact of_decide_eq_true hf
    have hp6:P.length≤6:=hfd.2.2.2.1
    have hxp:X.length+P.length≤15:=hfd.2.2.2.2.1
    have HFT:=Lib.hid hf
    clear hf hfd
    obtain ⟨D,hD⟩:∃ D,D=X++P:=⟨_,rfl⟩
    have hDl:D.length≤15:=by rw [hD,aA];omega
    have hsum:∀ W,(Op.stringOp .add (str X) (str P)).run Tryz.prog W = .ok (.string (str D)) W:=fun W=>by
     have:=run_string_add_sum (P:=Tryz.prog) (w:=W) (str X) (str P) (by rw [str_size,str_size];omega)
     rw [this,str_append,hD]
    have HD:=Lib.hid hD
    obtain ⟨n,hn⟩:∃ n,n=D.length:=⟨_,rfl⟩
    have kb:=fun (w:World) (l:List UInt8)=>Lib.run_convert_string_bytes (P:=Tryz.prog) w 9 66 5 (str l) Tryz.underlying9 Tryz.underlying66 Tryz.underlying5
    have HN:=Lib.hid hn
    clear hD hn
    go_wp2_with fail
    have hbw:=aAk w1 5 D
    have HS:=Lib.hid (aGb w1 5 D n HN.out.symm)
    have HB2:=Lib.hid (dL HB.out hbw)
    have hnl:n≤15:=by rw [HN.out];exact hDl
    clear hbw hsum kb
    generalize hk:w1.heap.size=k51 at *
    generalize (Lib.bytesWorld w1 5 (str D))=W2 at *
    have HK1:=Lib.hid hk
    clear hk
    go_loopw [7,53] (fun nv iv wr=>∃ k:Nat,k≤n∧nv = .int .i64 (cG (D.take k):Nat)∧iv = .int .i64 k∧wr=W2∧(D.take k).all eR=true) (fun _ iv _=>n - (intOf iv).toNat)
    case atStart=>exact ⟨0,by omega,by simp [cG],rfl,rfl,by simp⟩
    case round=>
     obtain ⟨k,hk,rfl,rfl,rfl,hall⟩:=hrel
     have hnD:D.length=n:=HN.out.symm
     by_cases hlt:k<n
     · have hkD:k<D.length:=by omega
       obtain ⟨x,hx⟩:∃ x,D[k]?=some x:=⟨_,aO hkD⟩
       obtain ⟨ad,u,hA,-,hu,hca⟩:=HS.out.at1 hlt
       have hu2:u = .int .u8 (x.toNat:Int):=by
        have:=hu
        unfold byt at this
        rw [List.getElem?_map,hx] at this
        exact (Option.some.inj this).symm
       subst hu2
       have hA':=Option.some.inj hA
       subst hA'
       have hca2:wr.cell? ⟨k51,k,none⟩=some (.int .u8 (x.toNat:Int)):=by
        have h:=hca
        simp only [Addr.add,bH] at h
        split at h
        · rename_i h0
          rw [h0]
          exact h
        · exact h
       have htk:D.take (k+1)=D.take k++[x]:=by rw [List.take_add_one,hx];rfl
       obtain ⟨V,hV⟩:∃ V,V=cG (D.take k):=⟨_,rfl⟩
       have hVb:V<10 ^ 15:=by
        have h1:=aJ1 _ hall
        rw [← hV,aT] at h1
        exact aE h1 (bP (by omega) (by omega))
       have h1515:(10:Nat) ^ 15=1000000000000000:=by decide
       have hVi:(V:Int)≤1000000000000000:=by omega
       clear h1515
       have hV0:(0:Int)≤V:=by omega
       have hx255:x.toNat≤255:=by have:=x.toNat_lt;omega
       have hki:(k:Int)<n:=by omega
       rw [← hV]
       by_cases hx1:(x.toNat:Int)<48
       · have HK:=Lib.hid (aCm (s:=s) (by
          rw [HR.out.1,← HD.out]
          have:D.all eR=false:=List.all_eq_false.2 ⟨x,List.mem_of_getElem? hx,by unfold eR;simp;omega⟩
          rw [this];simp))
         have HB:=HB2
         clear hu hA hca hx htk hall hV hVb hnD
         go_wp2_with fail
         go_ret2
         rw [HK.out.1,HK.out.2]
         exact ⟨rfl,HB.out⟩
       by_cases hx2:(57:Int)<x.toNat
       · have HK:=Lib.hid (aCm (s:=s) (by
          rw [HR.out.1,← HD.out]
          have:D.all eR=false:=List.all_eq_false.2 ⟨x,List.mem_of_getElem? hx,by unfold eR;simp;omega⟩
          rw [this];simp))
         have HB:=HB2
         clear hu hA hca hx htk hall hV hVb hnD
         go_wp2_with fail
         go_ret2
         rw [HK.out.1,HK.out.2]
         exact ⟨rfl,HB.out⟩
       · have HT:=Lib.hid (show ((10*V+(x.toNat - 48):Nat):Int)=((cG (D.take (k+1)):Nat):Int)∧(D.take (k+1)).all eR=true from by
          refine ⟨by rw [htk,iU,← hV],?_⟩
          rw [htk,List.all_append,hall]
          have:eR x=true:=by unfold eR;exact decide_eq_true ⟨by omega,by omega⟩
          simp [this])
         have hx3:(48:Int)≤x.toNat:=by omega
         have hx4:(x.toNat:Int)≤57:=by omega
         clear hu hA hca hx htk hall hV hVb hnD hx1
         go_wp2_with fail
         go_roundw
         case rel=>exact ⟨k+1,by omega,by rw [← HT.out.1];congr 1;omega,by go_num,trivial,HT.out.2⟩
         case measure=>simp [intOf];omega
     · have hkn:k=n:=by omega
       have hld:¬ k<D.length:=by omega
       have htk:D.take k=D:=List.take_of_length_le (by omega)
       rw [htk] at hall ⊢
       have HOK:=Lib.hid (show rpB s=arN .quo (floatOfInt .f64 (cG D)) (fX P.length)∧rpF s=0 from by
        have hok:lE s=true:=by rw [HR.out.1,HFT.out,← HD.out,hall];rfl
        rw [HR.out.2,if_pos hok,← HD.out]
        unfold rpF
        rw [if_pos hok]
        exact ⟨rfl,rfl⟩)
       clear htk hall hnD hk hkn
       cases h:floatBits .quo .f64 (floatOfInt .f64 (cG D)) (fX P.length) with
       | some r=>
         have hrun:=fun w t=>run_float_arith (P:=Tryz.prog) w .quo t .f64 _ _ _ h
         have HE:=Lib.hid (show arN .quo (floatOfInt .f64 (cG D)) (fX P.length)=toN r by simp [arN,h])
         clear h
         go_wp2_with (first
          | (go_at_call 109;refine (oD P.length hp6 _).mono ?_;rintro e w' ⟨rfl,rfl⟩)
          | (go_at_call 108;refine (aDe _ _).mono ?_;rintro e w' ⟨rfl,rfl⟩))
         go_ret2
         rw [HOK.out.1,HOK.out.2,HE.out]
         exact ⟨rfl,HB2.out⟩
       | none=>
         obtain ⟨r,hrun,hnan⟩:=aE5 (P:=Tryz.prog) wr .quo 154 _ _ (.inr (.inr (.inr rfl))) h
         have HE:=Lib.hid (show arN .quo (floatOfInt .f64 (cG D)) (fX P.length)=toN r by simp [arN,h,toN,hnan])
         clear h hnan
         go_wp2_with (first
          | (go_at_call 109;refine (oD P.length hp6 _).mono ?_;rintro e w' ⟨rfl,rfl⟩)
          | (go_at_call 108;refine (aDe _ _).mono ?_;rintro e w' ⟨rfl,rfl⟩))
         go_ret2
         rw [HOK.out.1,HOK.out.2,HE.out]
         exact ⟨rfl,HB2.out.drew⟩
end
section
def dS (T:List UInt8) (c:UInt8):Nat:=
 if (T==[61,61])=true then 2 else
 if (T==[33,61])=true then 2 else
 if (T==[60,61])=true then 2 else
 if (T==[62,61])=true then 2 else
 if (T==[38,38])=true then 2 else
 if (T==[124,124])=true then 2 else
 if (((c.toNat:Nat):Int)==59)=true then 1 else
 if (((c.toNat:Nat):Int)==123)=true then 1 else
 if (((c.toNat:Nat):Int)==125)=true then 1 else
 if (((c.toNat:Nat):Int)==40)=true then 1 else
 if (((c.toNat:Nat):Int)==41)=true then 1 else
 if (((c.toNat:Nat):Int)==61)=true then 1 else
 if (((c.toNat:Nat):Int)==60)=true then 1 else
 if (((c.toNat:Nat):Int)==62)=true then 1 else
 if (((c.toNat:Nat):Int)==43)=true then 1 else
 if (((c.toNat:Nat):Int)==45)=true then 1 else
 if (((c.toNat:Nat):Int)==42)=true then 1 else
 if (((c.toNat:Nat):Int)==47)=true then 1 else
 if (((c.toNat:Nat):Int)==37)=true then 1 else
 if (((c.toNat:Nat):Int)==33)=true then 1 else
 0
def fT (r:List UInt8):Nat:=match r with
 | []=>0
 | c::t=>dS (r.take 2) c
set_option maxHeartbeats 3200000 in
theorem aP8 (s:List UInt8) (k:Nat) (hs:s.length≤1048576) (hk:k<s.length) (w:World):Calls Tryz.prog 63 #[.string (str s),.int .i64 (k:Int)] w fun e w'=>e = .returned (.int .i64 (fT (s.drop k):Nat))∧w=w':=by
 have hd:s.drop k=s[k]::s.drop (k+1):=List.drop_eq_getElem_cons hk
 obtain ⟨c,hc⟩:∃ c,c=s[k]:=⟨_,rfl⟩
 have hix:=fun W=>kL s k hk W
 rw [← hc] at hix hd
 have w1:IntKind.i64.wrap ((k:Int)+1)=(k:Int)+1:=by rw [IntKind.wrap_i64];omega
 have w2:IntKind.i64.wrap ((k:Int)+2)=(k:Int)+2:=by rw [IntKind.wrap_i64];omega
 by_cases h2:k+1<s.length
 · obtain ⟨T,hT⟩:∃ T,List.take 2 (List.drop k s)=T:=⟨_,rfl⟩
   have hr:fT (s.drop k)=dS T c:=by
    rw [← hT,hd]
    rfl
   rw [hr]
   have i2:(k:Int)+1<s.length:=by omega
   have b1:(k:Int)+2≤s.length:=by omega
   have b2:k+2≤s.length:=by omega
   clear hd hr hc hk h2
   go_enter Tryz.func63,Tryz.ntmps63
   go_wp2
   all_goals
    go_ret
    refine ⟨s8 ?_,rfl⟩
    first
     | (simp only [dS,if_true,if_false,bN, *];rfl)
     | (exfalso;simp_all;done)
 · have hr:fT (s.drop k)=dS [] c:=by
    have hl:(s.drop (k+1))=[]:=List.drop_eq_nil_of_le (by omega)
    rw [hd,hl]
    show dS [c] c=_
    unfold dS
    simp
   rw [hr]
   have i2:¬ (k:Int)+1<s.length:=by omega
   clear hd hr hc hk h2
   go_enter Tryz.func63,Tryz.ntmps63
   go_wp2
   all_goals
    go_ret
    refine ⟨s8 ?_,rfl⟩
    first
     | (simp only [dS,if_true,if_false,bN, *];rfl)
     | (exfalso;simp_all;done)
end
section
def skN:Bool→List UInt8→Nat
 | _,[]=>0
 | false,c::r=>if kM (c.toNat:Int) then skN false r+1 else if c.toNat=35 then skN true r+1 else 0
 | true,c::r=>if iK (c.toNat:Int) then skN true r+1 else skN false r+1
theorem aGs:∀ (r:List UInt8),skN true r=(r.takeWhile fun c=>iK (c.toNat:Int)).length+skN false (r.drop (r.takeWhile fun c=>iK (c.toNat:Int)).length)
 | []=>rfl
 | c::r=>by
   rw [List.takeWhile_cons]
   cases h:iK (c.toNat:Int) with
   | true=>
     rw [if_pos rfl,aB,List.drop_succ_cons]
     show (if iK (c.toNat:Int) then skN true r+1 else skN false r+1)=_
     rw [h,if_pos rfl,aGs r]
     omega
   | false=>
     rw [if_neg (by decide)]
     show (if iK (c.toNat:Int) then skN true r+1 else skN false r+1)=0+(if kM (c.toNat:Int) then skN false r+1 else if c.toNat=35 then skN true r+1 else 0)
     have hb:kM (c.toNat:Int)=true:=by
      unfold iK at h
      unfold kM
      have:=of_decide_eq_false h
      exact decide_eq_true (by omega)
     rw [h,if_neg (by decide),hb,if_pos rfl]
     omega
theorem xI:∀ (b:Bool) (r:List UInt8),skN b r≤r.length
 | _,[]=>Nat.zero_le _
 | false,c::r=>by
   have h1:=xI false r
   have h2:=xI true r
   show (if kM (c.toNat:Int) then skN false r+1 else if c.toNat=35 then skN true r+1 else 0)≤_
   rw [aB]
   (repeat' split) <;> omega
 | true,c::r=>by
   have h1:=xI false r
   have h2:=xI true r
   show (if iK (c.toNat:Int) then skN true r+1 else skN false r+1)≤_
   rw [aB]
   split <;> omega
def nxN (s:List UInt8) (k:Nat):Nat:=k+skN false (s.drop k)
theorem lK {s:List UInt8} {k:Nat} (h:k≤s.length):k≤nxN s k∧nxN s k≤s.length:=by
 unfold nxN
 have:=xI false (s.drop k)
 rw [bI] at this
 omega
theorem aTr {s:List UInt8} {k:Nat} (h:s.length≤k):nxN s k=k:=by
 unfold nxN
 rw [List.drop_eq_nil_of_le h]
 rfl
theorem aP3 {s:List UInt8} {k:Nat} (h:k<s.length):nxN s k=if kM (s[k].toNat:Int) then nxN s (k+1) else if s[k].toNat=35 then nxN s (gQ iK s k) else k:=by
 unfold nxN
 have hd:s.drop k=s[k]::s.drop (k+1):=List.drop_eq_getElem_cons h
 obtain ⟨c,hc⟩:∃ c,c=s[k]:=⟨_,rfl⟩
 rw [← hc] at hd ⊢
 have hru:c.toNat=35→gQ iK s k=k+1+((s.drop (k+1)).takeWhile fun c=>iK (c.toNat:Int)).length:=by
  intro h35
  unfold gQ
  rw [hd,List.takeWhile_cons,if_pos (by rw [h35];decide),aB]
  omega
 rw [hd]
 show k+(if kM (c.toNat:Int) then skN false (s.drop (k+1))+1 else if c.toNat=35 then skN true (s.drop (k+1))+1 else 0)=_
 split
 · omega
 · split
   · rename_i h35
     rw [hru h35,aGs,List.drop_drop]
     omega
   · omega
set_option maxRecDepth 100000 in
set_option maxHeartbeats 1600000 in
theorem aGg (s:List UInt8) (k0:Nat) (hs:s.length≤1048576) (hk0:k0≤s.length) (w:World):Calls Tryz.prog 26 #[.string (str s),.int .i64 (k0:Int)] w fun e w'=>e = .returned (.int .i64 (nxN s k0:Nat))∧w=w':=by
 go_enter Tryz.func26,Tryz.ntmps26
 go_wp2_with fail
 go_step3
 go_wp2_with fail
 go_step3
 go_wp2_with fail
 go_loop [1] (fun i=>∃ k:Nat,k≤s.length∧i = .int .i64 k∧nxN s k=nxN s k0) (fun i=>s.length - (intOf i).toNat)
 case atStart=>exact ⟨k0,hk0,rfl,rfl⟩
 case round=>
  obtain ⟨k,hk,rfl,he⟩:=hrel
  have HE:=Lib.hid he
  clear he
  by_cases hlt:k<s.length
  · have hg:=Lib.hid (aP3 hlt)
    have hix:=fun W=>kL s k hlt W
    have hil:(k:Int)<s.length:=by omega
    obtain ⟨c,hc⟩:∃ c,c=s[k]:=⟨_,rfl⟩
    rw [← hc] at hix hg
    have HC:=Lib.hid hc
    clear hc
    cases hb:kM (c.toNat:Int) with
    | true=>
      have hgo:=hg.out
      rw [hb,if_pos rfl] at hgo
      have HG:=Lib.hid hgo
      have HB:=Lib.hid hb
      have w1:IntKind.i64.wrap ((k:Int)+1)=(k:Int)+1:=by rw [IntKind.wrap_i64];omega
      clear hgo hb
      go_wp2_with (go_at_call 56;refine (xW _ _).mono ?_;rintro e w' ⟨rfl,rfl⟩;have hb:=HB.out)
      go_round
      case rel=>exact ⟨k+1,by omega,by go_num,by rw [← HE.out,HG.out]⟩
      case measure=>simp [intOf];omega
    | false=>
      have hgo:=hg.out
      rw [hb,if_neg (by decide)] at hgo
      have HB:=Lib.hid hb
      clear hb
      by_cases h35:c.toNat=35
      · rw [if_pos h35] at hgo
        have HG:=Lib.hid hgo
        have h35':((c.toNat:Int)==35)=true:=beq_iff_eq.2 (by omega)
        have hle:=p8 iK s k hk
        have hgt:k<gQ iK s k:=by
         rw [aDn iK s k hlt,← HC.out,h35,if_pos (by decide)]
         have:=p8 iK s (k+1) (by omega)
         omega
        have HR:=Lib.hid (fun W=>uA 58 iK s k W hs hk (fun args w=>by simp [go_sem]) (fun c w=>aM1 c w))
        obtain ⟨r,hr⟩:∃ r,r=gQ iK s k:=⟨_,rfl⟩
        rw [← hr] at HG HR hle hgt
        clear hgo h35 hr
        go_wp2_with (first
         | (go_at_call 56;refine (xW _ _).mono ?_;rintro e w' ⟨rfl,rfl⟩;have hb:=HB.out)
         | (go_at_call 57;(with_reducible refine (HR.out _).mono ?_);rintro e w' ⟨rfl,rfl⟩))
        go_round
        case rel=>exact ⟨r,hle.2,rfl,by rw [← HE.out,HG.out]⟩
        case measure=>simp [intOf];omega
      · rw [if_neg h35] at hgo
        have HG:=Lib.hid hgo
        have h35':((c.toNat:Int)==35)=false:=beq_false_of_ne (by omega)
        clear hgo h35
        go_wp2_with (go_at_call 56;refine (xW _ _).mono ?_;rintro e w' ⟨rfl,rfl⟩;have hb:=HB.out)
        rw [Exit.noGoto_ret]
        go_ret
        rw [← HE.out,HG.out]
        exact ⟨rfl,rfl⟩
  · have hg:=aTr (s:=s) (k:=k) (by omega)
    have HG:=Lib.hid hg
    have hil:¬ (k:Int)<s.length:=by omega
    clear hg
    go_wp2_with fail
    go_ret
    rw [← HE.out,HG.out]
    exact ⟨rfl,rfl⟩
end
end Go.Proofs.YtijopiphkgddhaaGreatDoor
section
namespace Go.As
open Go
theorem cT {P:Program} {ops:Array Oper} {Q:Exit→Act→World→Prop} {o:Oper} {rest:List Oper} {a:Act} {w:World} (v:Value) (hg:o.guard=none) (hv:(execOp a.eval o).run P w = .ok (.value v) w)
  (h:wpList P ops Q rest (a.put o.dst v) w):wpList P ops Q (o::rest) a w:=
 wpList_plain hg fun K hK=>by
  unfold Oper.wp
  rw [hv]
  exact hK _ _ h
theorem sW {P:Program} {ops:Array Oper} {Q:Exit→Act→World→Prop} {S:World→Prop} {i:Nat} {p:Plan} {a:Act} {w:World} {o:Oper} (hi:ops.toList[i]?=some o) (hg:o.guard=none) (ty:TypeId) (x y:Operand) (ho:o.op = .store ty x y)
  (b:Nat) (cells:Array Value) (hx:a.eval x = .pointer (some ⟨b,0,none⟩)) (hy:a.eval y = .agg cells) (ht:w.there b 0 cells.size) (hn:(P.info? ty).map (·.size)=some cells.size) (h1:cells.all (·.oneCell')=true)
  (hS:S (w.setCells b 0 cells.toList)) (h:iA P ops Q S p (a.put o.dst undef) (w.setCells b 0 cells.toList)):iA P ops Q S (.run i p) a w:=
 sB hi fun K hK=>by
  have hw:Region.wanted o (yielded ops a.tmps)=true:=by unfold Region.wanted;rw [hg]
  rw [if_pos hw]
  exact wp_store_mid ty x y ho b 0 cells hx hy ht hn h1 (hK _ _ ⟨hS,h⟩)
theorem aVi {P:Program} {fn:Func} {x p y:Tmp} {ty:TypeId} {tmps:Array Value} {w:World} {u v:Value} (g:Nat) (t:TypeId) (cs:Array Value) (fr:Nat×Nat) (d:TypeDesc) (h:fn.results=#[.tmp x,.cell p ty,.tmp y])
  (hx:tmps.getD x undef=u) (hy:tmps.getD y undef=v) (hp:tmps.getD p undef = .pointer (some ⟨g,0,none⟩)) (hg:w.heap[g]?=some (.cells cs t fr))
  (hu:P.underlying ty=some d) (hd:(match d with | .struct _ | .array _ _=>true | _=>false)=true) (hi:(P.info? ty).map (·.size)=some cs.size):
  (results fn tmps).run P w = .ok (.tuple #[u,.agg cs,v]) w:=by
 have hp':tmps[p]?.getD undef = .pointer (some ⟨g,0,none⟩):=by simpa using hp
 have hx':tmps[x]?.getD undef=u:=by simpa using hx
 have hy':tmps[y]?.getD undef=v:=by simpa using hy
 simp [results,h,hp',hx',hy',asAddr,run_loadVar_row w g t ty cs fr d hg hu hd hi]
theorem eO {P:Program} {fn:Func} {p y:Tmp} {ty:TypeId} {tmps:Array Value} {w:World} {v:Value} (g:Nat) (t:TypeId) (cs:Array Value) (fr:Nat×Nat) (d:TypeDesc) (h:fn.results=#[.cell p ty,.tmp y])
  (hy:tmps.getD y undef=v) (hp:tmps.getD p undef = .pointer (some ⟨g,0,none⟩)) (hg:w.heap[g]?=some (.cells cs t fr))
  (hu:P.underlying ty=some d) (hd:(match d with | .struct _ | .array _ _=>true | _=>false)=true) (hi:(P.info? ty).map (·.size)=some cs.size):
  (results fn tmps).run P w = .ok (.tuple #[.agg cs,v]) w:=by
 have hp':tmps[p]?.getD undef = .pointer (some ⟨g,0,none⟩):=by simpa using hp
 have hy':tmps[y]?.getD undef=v:=by simpa using hy
 simp [results,h,hp',hy',asAddr,run_loadVar_row w g t ty cs fr d hg hu hd hi]
theorem Blk.there {w:World} {g:Nat} {t:TypeId} {cs:Array Value} (h:Blk w g t cs) {n:Nat} (hn:n≤cs.size):w.there g 0 n:=fun j hj=>
 ⟨by rw [h.cell,Array.getElem?_eq_getElem (by omega)];simp,h.frozen _⟩
theorem Blk.setCells_ {g:Nat} {t:TypeId}:∀ (vs:List Value) (o:Nat) (w:World) (cs:Array Value),Blk w g t cs→∃ cs',Blk (w.setCells g o vs) g t cs'∧cs'.size=cs.size∧∀ j,j<cs.size→cs'[j]?=if o≤j∧j<o+vs.length then vs[j - o]? else cs[j]?
 | [],o,w,cs,h=>⟨cs,h,rfl,fun j hj=>by rw [if_neg (by simp)]⟩
 | v::r,o,w,cs,h=>by
   obtain ⟨cs',h1,h2,h3⟩:=Blk.setCells_ r (o+1) _ _ (h.set_ o v)
   refine ⟨cs',h1,by rw [h2];simp,fun j hj=>?_⟩
   rw [h3 j (by simpa using hj)]
   by_cases hj1:o+1≤j∧j<o+1+r.length
   · rw [if_pos hj1,if_pos (by simp;omega),show j - o=(j - (o+1))+1 by omega,List.getElem?_cons_succ]
   · rw [if_neg hj1]
     by_cases hjo:j=o
     · subst hjo
       rw [if_pos (by simp)]
       simp [hj]
     · rw [if_neg (by simp;simp at hj1;omega),Array.getElem?_setIfInBounds_ne (by omega)]
theorem Blk.setCells {w:World} {g:Nat} {t:TypeId} {cs:Array Value} (h:Blk w g t cs) (vs:List Value) (hn:vs.length=cs.size):Blk (w.setCells g 0 vs) g t vs.toArray:=by
 obtain ⟨cs',h1,h2,h3⟩:=Blk.setCells_ vs 0 w cs h
 have:cs'=vs.toArray:=by
  apply Array.ext_getElem?
  intro j
  by_cases hj:j<cs.size
  · rw [h3 j hj,if_pos (by omega)];simp
  · rw [Array.getElem?_eq_none (by omega),Array.getElem?_eq_none (by simp;omega)]
 rw [← this];exact h1
theorem Only.setCells {F:Nat→Prop} {w:World} {g:Nat}:∀ (vs:List Value) (o:Nat) {w':World},Only F w w'→(F g∨w.heap.size≤g)→Only F w (w'.setCells g o vs)
 | [],_,_,h,_=>h
 | v::r,o,_,h,hg=>Only.setCells r (o+1) (h.set (p:=⟨g,o,none⟩) hg v) hg
theorem Blk.drewN {w:World} {g:Nat} {t:TypeId} {cs:Array Value} (h:Blk w g t cs) (n:Nat):Blk (w.drewN n) g t cs:=h
theorem Blk.farCells {w:World} {g:Nat} {t:TypeId} {cs:Array Value} (h:Blk w g t cs) {b:Nat} (hb:g≠b) (vs:List Value) (o:Nat):Blk (w.setCells b o vs) g t cs:=
 h.only ((Only.refl (fun x=>x=b) w).setCells vs o (.inl rfl)) hb
end Go.As
end
section
namespace Go.Proofs
open Go.Shelf
def Tryz.laysM171_ren:Go.Shelf.Ren:=⟨fun | 171=>144 | 243=>154 | 246=>99 | 283=>121 | 284=>122 | 285=>123 | 286=>124 | 129=>137 | 317=>136 | 318=>138 | 319=>139 | 320=>140 | 337=>149 | 338=>150 | n=>n,fun | 3=>3 | 9=>9 | 2=>2 | 4=>4 | 171=>165 | 0=>0 | 53=>40 | 37=>66 | 5=>5 | 173=>168 | 212=>181 | 51=>174 | 20=>20 | 213=>182 | 46=>145 | 232=>193 | 233=>194 | n=>n,fun | 17=>0 | 18=>3 | 19=>4 | n=>n⟩
theorem Tryz.laysM171:Go.Proofs.LaysM.n171 Tryz.prog Tryz.laysM171_ren:={
 mixed:=by kernel_rfl
 f129:=Tryz.func137.trans (congrArg some (by kernel_rfl))
 f171:=Tryz.func144.trans (congrArg some (by kernel_rfl))
 f243:=Tryz.func154.trans (congrArg some (by kernel_rfl))
 f246:=Tryz.func99.trans (congrArg some (by kernel_rfl))
 f283:=Tryz.func121.trans (congrArg some (by kernel_rfl))
 f284:=Tryz.func122.trans (congrArg some (by kernel_rfl))
 f285:=Tryz.func123.trans (congrArg some (by kernel_rfl))
 f286:=Tryz.func124.trans (congrArg some (by kernel_rfl))
 f317:=Tryz.func136.trans (congrArg some (by kernel_rfl))
 f318:=Tryz.func138.trans (congrArg some (by kernel_rfl))
 f319:=Tryz.func139.trans (congrArg some (by kernel_rfl))
 f320:=Tryz.func140.trans (congrArg some (by kernel_rfl))
 f337:=Tryz.func149.trans (congrArg some (by kernel_rfl))
 f338:=Tryz.func150.trans (congrArg some (by kernel_rfl))
 t0:=Tryz.underlying0
 a0:=Tryz.isAgg0
 z0:=Tryz.sizeOf0
 v0:=Tryz.zeroValue0
 t2:=Tryz.underlying2
 a2:=Tryz.isAgg2
 z2:=Tryz.sizeOf2
 v2:=Tryz.zeroValue2
 t3:=Tryz.underlying3
 a3:=Tryz.isAgg3
 z3:=Tryz.sizeOf3
 v3:=Tryz.zeroValue3
 t4:=Tryz.underlying4
 a4:=Tryz.isAgg4
 z4:=Tryz.sizeOf4
 v4:=Tryz.zeroValue4
 t5:=Tryz.underlying5
 a5:=Tryz.isAgg5
 z5:=Tryz.sizeOf5
 v5:=Tryz.zeroValue5
 t9:=Tryz.underlying9
 a9:=Tryz.isAgg9
 z9:=Tryz.sizeOf9
 v9:=Tryz.zeroValue9
 t20:=Tryz.underlying20
 a20:=Tryz.isAgg20
 z20:=Tryz.sizeOf20
 v20:=Tryz.zeroValue20
 t37:=Tryz.underlying66
 a37:=Tryz.isAgg66
 z37:=Tryz.sizeOf66
 v37:=Tryz.zeroValue66
 t46:=Tryz.underlying145
 a46:=Tryz.isAgg145
 z46:=Tryz.sizeOf145
 v46:=Tryz.zeroValue145
 t51:=Tryz.underlying174
 a51:=Tryz.isAgg174
 z51:=Tryz.sizeOf174
 v51:=Tryz.zeroValue174
 t53:=Tryz.underlying40
 a53:=Tryz.isAgg40
 z53:=Tryz.sizeOf40
 v53:=Tryz.zeroValue40
 t171:=Tryz.underlying165
 a171:=Tryz.isAgg165
 z171:=Tryz.sizeOf165
 v171:=Tryz.zeroValue165
 t173:=Tryz.underlying168
 a173:=Tryz.isAgg168
 z173:=Tryz.sizeOf168
 v173:=Tryz.zeroValue168
 t212:=Tryz.underlying181
 a212:=Tryz.isAgg181
 z212:=Tryz.sizeOf181
 v212:=Tryz.zeroValue181
 t213:=Tryz.underlying182
 a213:=Tryz.isAgg182
 z213:=Tryz.sizeOf182
 t232:=Tryz.underlying193
 a232:=Tryz.isAgg193
 z232:=Tryz.sizeOf193
 v232:=Tryz.zeroValue193
 t233:=Tryz.underlying194
 a233:=Tryz.isAgg194
 z233:=Tryz.sizeOf194
 v233:=Tryz.zeroValue194
 g17:=by kernel_rfl
 g18:=by kernel_rfl
 g19:=by kernel_rfl
 i0:=by kernel_rfl
 i2:=by kernel_rfl
 i3:=by kernel_rfl
 i4:=by kernel_rfl
 i5:=by kernel_rfl
 i9:=by kernel_rfl
 i20:=by kernel_rfl
 i37:=by kernel_rfl
 i46:=by kernel_rfl
 i51:=by kernel_rfl
 i53:=by kernel_rfl
 i171:=by kernel_rfl
 i173:=by kernel_rfl
 i212:=by kernel_rfl
 i232:=by kernel_rfl
 i233:=by kernel_rfl
 m17:=by kernel_rfl
 m18:=by kernel_rfl
 m19:=by kernel_rfl }
open Go.RowKit Go.Sort Go.Lib in
theorem Tryz.strconv_Itoa (n:Int) (h0 : -9223372036854775808≤n) (h1:n≤9223372036854775807) (w:World) (htab:Lib.TabIs Tryz.prog w "internal/strconv.uint64pow10" .u64 Lib.pow10Tab):
 Calls Tryz.prog 144 #[.int .i64 n] w fun e w'=>e = .returned (.string ⟨(Lib.itoa n).toArray⟩)∧∃ k os,w'=grow (w.drewN k) os:=Any.strconv_Itoa Tryz.laysM171 n h0 h1 w htab
def Tryz.laysM173_ren:Go.Shelf.Ren:=⟨fun | 173=>82 | 246=>99 | 283=>121 | 284=>122 | 285=>123 | 286=>124 | 129=>137 | 317=>136 | 318=>138 | 319=>139 | 320=>140 | 337=>149 | 338=>150 | n=>n,fun | 2=>2 | 3=>3 | 9=>9 | 4=>4 | 171=>165 | 0=>0 | 53=>40 | 37=>66 | 5=>5 | 173=>168 | 212=>181 | 51=>174 | 20=>20 | 213=>182 | 46=>145 | 232=>193 | 233=>194 | n=>n,fun | 17=>0 | 18=>3 | 19=>4 | n=>n⟩
theorem Tryz.laysM173:Go.Proofs.LaysM.n173 Tryz.prog Tryz.laysM173_ren:={
 mixed:=by kernel_rfl
 f129:=Tryz.func137.trans (congrArg some (by kernel_rfl))
 f173:=Tryz.func82.trans (congrArg some (by kernel_rfl))
 f246:=Tryz.func99.trans (congrArg some (by kernel_rfl))
 f283:=Tryz.func121.trans (congrArg some (by kernel_rfl))
 f284:=Tryz.func122.trans (congrArg some (by kernel_rfl))
 f285:=Tryz.func123.trans (congrArg some (by kernel_rfl))
 f286:=Tryz.func124.trans (congrArg some (by kernel_rfl))
 f317:=Tryz.func136.trans (congrArg some (by kernel_rfl))
 f318:=Tryz.func138.trans (congrArg some (by kernel_rfl))
 f319:=Tryz.func139.trans (congrArg some (by kernel_rfl))
 f320:=Tryz.func140.trans (congrArg some (by kernel_rfl))
 f337:=Tryz.func149.trans (congrArg some (by kernel_rfl))
 f338:=Tryz.func150.trans (congrArg some (by kernel_rfl))
 t0:=Tryz.underlying0
 a0:=Tryz.isAgg0
 z0:=Tryz.sizeOf0
 v0:=Tryz.zeroValue0
 t2:=Tryz.underlying2
 a2:=Tryz.isAgg2
 z2:=Tryz.sizeOf2
 v2:=Tryz.zeroValue2
 t3:=Tryz.underlying3
 a3:=Tryz.isAgg3
 z3:=Tryz.sizeOf3
 v3:=Tryz.zeroValue3
 t4:=Tryz.underlying4
 a4:=Tryz.isAgg4
 z4:=Tryz.sizeOf4
 v4:=Tryz.zeroValue4
 t5:=Tryz.underlying5
 a5:=Tryz.isAgg5
 z5:=Tryz.sizeOf5
 v5:=Tryz.zeroValue5
 t9:=Tryz.underlying9
 a9:=Tryz.isAgg9
 z9:=Tryz.sizeOf9
 v9:=Tryz.zeroValue9
 t20:=Tryz.underlying20
 a20:=Tryz.isAgg20
 z20:=Tryz.sizeOf20
 v20:=Tryz.zeroValue20
 t37:=Tryz.underlying66
 a37:=Tryz.isAgg66
 z37:=Tryz.sizeOf66
 v37:=Tryz.zeroValue66
 t46:=Tryz.underlying145
 a46:=Tryz.isAgg145
 z46:=Tryz.sizeOf145
 v46:=Tryz.zeroValue145
 t51:=Tryz.underlying174
 a51:=Tryz.isAgg174
 z51:=Tryz.sizeOf174
 v51:=Tryz.zeroValue174
 t53:=Tryz.underlying40
 a53:=Tryz.isAgg40
 z53:=Tryz.sizeOf40
 v53:=Tryz.zeroValue40
 t171:=Tryz.underlying165
 a171:=Tryz.isAgg165
 z171:=Tryz.sizeOf165
 v171:=Tryz.zeroValue165
 t173:=Tryz.underlying168
 a173:=Tryz.isAgg168
 z173:=Tryz.sizeOf168
 v173:=Tryz.zeroValue168
 t212:=Tryz.underlying181
 a212:=Tryz.isAgg181
 z212:=Tryz.sizeOf181
 v212:=Tryz.zeroValue181
 t213:=Tryz.underlying182
 a213:=Tryz.isAgg182
 z213:=Tryz.sizeOf182
 t232:=Tryz.underlying193
 a232:=Tryz.isAgg193
 z232:=Tryz.sizeOf193
 v232:=Tryz.zeroValue193
 t233:=Tryz.underlying194
 a233:=Tryz.isAgg194
 z233:=Tryz.sizeOf194
 v233:=Tryz.zeroValue194
 g17:=by kernel_rfl
 g18:=by kernel_rfl
 g19:=by kernel_rfl
 i0:=by kernel_rfl
 i2:=by kernel_rfl
 i3:=by kernel_rfl
 i4:=by kernel_rfl
 i5:=by kernel_rfl
 i9:=by kernel_rfl
 i20:=by kernel_rfl
 i37:=by kernel_rfl
 i46:=by kernel_rfl
 i51:=by kernel_rfl
 i53:=by kernel_rfl
 i171:=by kernel_rfl
 i173:=by kernel_rfl
 i212:=by kernel_rfl
 i232:=by kernel_rfl
 i233:=by kernel_rfl
 m17:=by kernel_rfl
 m18:=by kernel_rfl
 m19:=by kernel_rfl }
open Go.RowKit Go.Sort Go.Lib in
theorem Tryz.strconv_FormatInt_10 (n:Int) (h0 : -9223372036854775808≤n) (h1:n≤9223372036854775807) (w:World) (htab:Lib.TabIs Tryz.prog w "internal/strconv.uint64pow10" .u64 Lib.pow10Tab):
 Calls Tryz.prog 82 #[.int .i64 n,.int .i64 10] w fun e w'=>e = .returned (.string ⟨(Lib.itoa n).toArray⟩)∧∃ k os,w'=grow (w.drewN k) os:=Any.strconv_FormatInt_10 Tryz.laysM173 n h0 h1 w htab
def Tryz.lays264_ren:Go.Shelf.Ren:=⟨fun | 264=>110 | n=>n,fun | 53=>40 | 46=>145 | n=>n,fun | n=>n⟩
theorem Tryz.lays264:Go.Proofs.Lays.n264 Tryz.prog Tryz.lays264_ren:={
 mixed:=by kernel_rfl
 f264:=Tryz.func110.trans (congrArg some (by kernel_rfl))
 t46:=Tryz.underlying145
 a46:=Tryz.isAgg145
 z46:=Tryz.sizeOf145
 v46:=Tryz.zeroValue145
 t53:=Tryz.underlying40
 a53:=Tryz.isAgg40
 z53:=Tryz.sizeOf40
 v53:=Tryz.zeroValue40 }
open Go.RowKit Go.Lib in
theorem Tryz.bits_Mul64 (x y:Nat) (hx:x<18446744073709551616) (hy:y<18446744073709551616) (w:World):
 Calls Tryz.prog 110 #[.int .u64 x,.int .u64 y] w fun e w'=>e = .returned (.tuple #[.int .u64 ((x*y / 18446744073709551616:Nat):Int),.int .u64 ((x*y % 18446744073709551616:Nat):Int)])∧w'=w:=Any.bits_Mul64 Tryz.lays264 x y hx hy w
def Tryz.lays105_ren:Go.Shelf.Ren:=⟨fun | 105=>86 | 212=>102 | 99=>103 | 165=>104 | 166=>18 | 170=>20 | 169=>21 | 263=>128 | 264=>110 | 206=>129 | 240=>50 | 241=>130 | 276=>85 | 277=>145 | n=>n,fun | 9=>9 | 3=>3 | 4=>4 | 20=>20 | 0=>0 | 46=>145 | 109=>147 | 5=>5 | 72=>68 | 76=>74 | 51=>174 | 146=>175 | 53=>40 | 148=>156 | 70=>65 | 37=>66 | 75=>73 | 127=>107 | 164=>130 | 80=>78 | n=>n,fun | n=>n⟩
theorem Tryz.lays105:Go.Proofs.Lays.n105 Tryz.prog Tryz.lays105_ren:={
 mixed:=by kernel_rfl
 f99:=Tryz.func103.trans (congrArg some (by kernel_rfl))
 f105:=Tryz.func86.trans (congrArg some (by kernel_rfl))
 f165:=Tryz.func104.trans (congrArg some (by kernel_rfl))
 f166:=Tryz.func18.trans (congrArg some (by kernel_rfl))
 f169:=Tryz.func21.trans (congrArg some (by kernel_rfl))
 f170:=Tryz.func20.trans (congrArg some (by kernel_rfl))
 f206:=Tryz.func129.trans (congrArg some (by kernel_rfl))
 f212:=Tryz.func102.trans (congrArg some (by kernel_rfl))
 f240:=Tryz.func50.trans (congrArg some (by kernel_rfl))
 f241:=Tryz.func130.trans (congrArg some (by kernel_rfl))
 f263:=Tryz.func128.trans (congrArg some (by kernel_rfl))
 f264:=Tryz.func110.trans (congrArg some (by kernel_rfl))
 f276:=Tryz.func85.trans (congrArg some (by kernel_rfl))
 f277:=Tryz.func145.trans (congrArg some (by kernel_rfl))
 t0:=Tryz.underlying0
 a0:=Tryz.isAgg0
 z0:=Tryz.sizeOf0
 v0:=Tryz.zeroValue0
 t3:=Tryz.underlying3
 a3:=Tryz.isAgg3
 z3:=Tryz.sizeOf3
 v3:=Tryz.zeroValue3
 t4:=Tryz.underlying4
 a4:=Tryz.isAgg4
 z4:=Tryz.sizeOf4
 v4:=Tryz.zeroValue4
 t5:=Tryz.underlying5
 a5:=Tryz.isAgg5
 z5:=Tryz.sizeOf5
 v5:=Tryz.zeroValue5
 t9:=Tryz.underlying9
 a9:=Tryz.isAgg9
 z9:=Tryz.sizeOf9
 v9:=Tryz.zeroValue9
 t20:=Tryz.underlying20
 a20:=Tryz.isAgg20
 z20:=Tryz.sizeOf20
 v20:=Tryz.zeroValue20
 t37:=Tryz.underlying66
 a37:=Tryz.isAgg66
 z37:=Tryz.sizeOf66
 v37:=Tryz.zeroValue66
 t46:=Tryz.underlying145
 a46:=Tryz.isAgg145
 z46:=Tryz.sizeOf145
 v46:=Tryz.zeroValue145
 t51:=Tryz.underlying174
 a51:=Tryz.isAgg174
 z51:=Tryz.sizeOf174
 v51:=Tryz.zeroValue174
 t53:=Tryz.underlying40
 a53:=Tryz.isAgg40
 z53:=Tryz.sizeOf40
 v53:=Tryz.zeroValue40
 t70:=Tryz.underlying65
 a70:=Tryz.isAgg65
 z70:=Tryz.sizeOf65
 v70:=Tryz.zeroValue65
 t72:=Tryz.underlying68
 a72:=Tryz.isAgg68
 z72:=Tryz.sizeOf68
 v72:=Tryz.zeroValue68
 t75:=Tryz.underlying73
 a75:=Tryz.isAgg73
 z75:=Tryz.sizeOf73
 v75:=Tryz.zeroValue73
 t76:=Tryz.underlying74
 a76:=Tryz.isAgg74
 z76:=Tryz.sizeOf74
 v76:=Tryz.zeroValue74
 t109:=Tryz.underlying147
 a109:=Tryz.isAgg147
 z109:=Tryz.sizeOf147
 v109:=Tryz.zeroValue147
 t127:=Tryz.underlying107
 a127:=Tryz.isAgg107
 z127:=Tryz.sizeOf107
 v127:=Tryz.zeroValue107
 t146:=Tryz.underlying175
 a146:=Tryz.isAgg175
 z146:=Tryz.sizeOf175
 v146:=Tryz.zeroValue175
 t148:=Tryz.underlying156
 a148:=Tryz.isAgg156
 z148:=Tryz.sizeOf156
 v148:=Tryz.zeroValue156
 t164:=Tryz.underlying130
 a164:=Tryz.isAgg130
 z164:=Tryz.sizeOf130
 v164:=Tryz.zeroValue130 }
theorem Tryz.Builder_Extra_105:Builder.Extra Tryz.prog Tryz.lays105_ren:={
 sizeBuilder:=by kernel_rfl
 liesBuilder:=by kernel_rfl
 t5:=Tryz.underlying5
 a5:=Tryz.isAgg5
 z5:=Tryz.sizeOf5
 v5:=Tryz.zeroValue5
 infoByte:=by kernel_rfl
 cellsByte:=by kernel_rfl
 sizeByte:=by kernel_rfl
 neB5:=by decide }
open Go.RowKit Go.Lib in
theorem Tryz.strings_Repeat (s:ByteArray) (c:Nat) (w:World) (hc:c≤9223372036854775807) (hlen:s.size*c≤140737488355328):
 Calls Tryz.prog 86 #[.string s,.int .i64 c] w fun e w'=>e = .returned (.string ⟨(Lib.repeatL s.data.toList c).toArray⟩)∧Below w.heap.size w w':=Any.strings_Repeat Tryz.lays105 Tryz.Builder_Extra_105 s c w hc hlen
end Go.Proofs
end
namespace Go.Proofs.YtijopiphkgddhaaGreatDoor
open Go.RowKit Go.As
section
theorem dO {B:Nat} {a:World} {g:Nat} (hg:B≤g):∀ (vs:List Value) (o:Nat) {w:World},Below B a w→Below B a (w.setCells g o vs)
 | [],_,_,h=>h
 | v::r,o,_,h=>dO hg r (o+1) (h.setCell (p:=⟨g,o,none⟩) hg v)
theorem aUn (x y:Nat) (W:World):(callFunc 111 #[.int .u64 (x:Int),.int .u64 (y:Int),.int .u64 0]).run Tryz.prog W = .ok (.value (.tuple #[.int .u64 (((x+y) % 18446744073709551616:Nat):Int),.int .u64 (((x+y) / 18446744073709551616:Nat):Int)])) W:=by
 rw [run_callFunc_extern (P:=Tryz.prog) Tryz.func111 (by kernel_rfl) (by kernel_rfl) (e:=add64Entry) (by kernel_rfl) (by kernel_rfl)]
 have:=run_add64 (P:=Tryz.prog) (x:Int) (y:Int) 0 (by omega) (by omega) (by omega) (by omega) W
 rw [this]
 show Result.ok (Next.value (.tuple #[.int .u64 (((x:Int)+(y:Int)+0) % 18446744073709551616),.int .u64 (((x:Int)+(y:Int)+0) / 18446744073709551616)])) W=_
 have e1:((x:Int)+(y:Int)+0) % 18446744073709551616=(((x+y) % 18446744073709551616:Nat):Int):=by omega
 have e2:((x:Int)+(y:Int)+0) / 18446744073709551616=(((x+y) / 18446744073709551616:Nat):Int):=by omega
 rw [e1,e2]
theorem lD (x:Nat) (hx:x<18446744073709551616) (W:World):Calls Tryz.prog 110 #[.int .u64 (x:Int),.int .u64 10] W fun e w'=>e = .returned (.tuple #[.int .u64 ((x*10 / 18446744073709551616:Nat):Int),.int .u64 ((x*10 % 18446744073709551616:Nat):Int)])∧W=w':=by
 refine (Tryz.bits_Mul64 x 10 hx (by omega) W).mono ?_
 rintro e w' ⟨rfl,rfl⟩
 exact ⟨rfl,rfl⟩
def fP (s:List UInt8):Bool:=decide (¬ (s.head?=some 48∧1<s.length)∧cG s<9223372036854775808)
def nL (s:List UInt8):Array Value:=if fP s=true then #[.int .u8 1,.int .u64 (cG s:Nat)] else #[.int .u8 0,.int .u64 0]
theorem qM {s:List UInt8} (h:fP s=false):nL s=#[.int .u8 0,.int .u64 0]:=by unfold nL;rw [h,if_neg (by decide)]
theorem aR5 {s:List UInt8} (h:fP s=true):nL s=#[.int .u8 1,.int .u64 (cG s:Nat)]:=by unfold nL;rw [h,if_pos rfl]
theorem aPi (r:List UInt8):∀ l:List UInt8,cG l≤cG (l++r):=by
 induction r with
 | nil=>intro l;rw [bF];exact aH _
 | cons c r ih=>
   intro l
   have h1:=ih (l++[c])
   rw [aK,bS] at h1
   have h2:=iU l c
   omega
theorem aEs (s:List UInt8) (k:Nat):cG (s.take k)≤cG s:=by
 have:=aPi (s.drop k) (s.take k)
 rw [List.take_append_drop] at this
 exact this
set_option maxRecDepth 100000 in
set_option maxHeartbeats 3200000 in
theorem wT (s:List UInt8) (hs:s.length≤1048576) (h0:0<s.length) (hd:s.all eR=true) (w:World):
  Calls Tryz.prog 90 #[.string (str s)] w fun e w'=>e = .returned (.tuple #[.agg (nL s),.bool (fP s)])∧Below w.heap.size w w':=by
 have hidx:∀ W,(Instr.index 9 (.string (str s)) (.int .i64 0)).run Tryz.prog W = .ok (.int .u8 ((s[0]).toNat:Nat)) W:=fun W=>kL s 0 h0 W
 obtain ⟨c0,hc0⟩:∃ c0,c0=s[0]:=⟨_,rfl⟩
 rw [← hc0] at hidx
 have hhd:s.head?=some c0:=by rw [hc0];cases s with
  | nil=>simp at h0
  | cons x r=>rfl
 have HD:=Lib.hid hd
 clear hd hc0
 go_enter Tryz.func90,Tryz.ntmps90
 go_upto_region 1 with fail
 obtain ⟨g,hg⟩:∃ g,g=w.heap.size:=⟨_,rfl⟩
 have hblk0:=Blk.new w 42 (#[.int .u8 0,.int .u64 0]:Array Value)
 have hbel0:=(Below.refl w.heap.size w).alloc (aH _) (.cells (#[.int .u8 0,.int .u64 0]:Array Value) 42)
 obtain ⟨w1,hw1⟩:∃ w1,w1=w.alloc (.cells (#[.int .u8 0,.int .u64 0]:Array Value) 42):=⟨_,rfl⟩
 rw [← hw1] at hblk0 hbel0 ⊢
 rw [← hg] at hblk0
 rw [← hg]
 have HB:=Lib.hid hbel0
 have HBK:=Lib.hid hblk0
 have HG:=Lib.hid hg
 clear hblk0 hbel0 hw1 hg
 by_cases h48:c0=48∧1<s.length
 · have HBAD:=Lib.hid (show fP s=false from by unfold fP;exact decide_eq_false (fun h=>h.1 ⟨by rw [hhd,h48.1],h48.2⟩))
   have b1:((c0.toNat:Int)==48)=true:=by rw [h48.1];rfl
   have b2:(1:Int)<s.length:=by omega
   have b3:=h48.2
   clear h48 hhd
   go_upto_region 2 with fail
   refine wp_region_lit ?_
   refine cT (.agg #[.int .u8 0,.int .u64 0]) rfl (by kernel_rfl) ?_
   refine wpList_store_mid rfl 42 (.tmp 2) (.tmp 19) rfl g 0 #[.int .u8 0,.int .u64 0] rfl rfl (HBK.out.there (by decide)) (by kernel_rfl) (by kernel_rfl) ?_
   refine cT (.bool false) rfl (by kernel_rfl) ?_
   refine wpList_nil ?_
   simp only [Exit.then]
   rename_i hK
   refine hK _ _ ?_
   refine wp_ret ?_
   simp (config:={ zetaDelta:=true }) only [Exit.then]
   refine bodyPost_ret (v := .tuple #[.agg #[.int .u8 0,.int .u64 0],.bool false]) (eO g 42 #[.int .u8 0,.int .u64 0] (0,0) _ rfl rfl rfl (HBK.out.setCells [.int .u8 0,.int .u64 0] rfl) Tryz.underlying42 rfl (by kernel_rfl)) rfl ?_
   exact ⟨by rw [qM HBAD.out,HBAD.out],dO (Nat.le_of_eq HG.out.symm) _ _ HB.out⟩
 · have HNZ:=Lib.hid (show ¬ (s.head?=some 48∧1<s.length) from fun h=>h48 ⟨by rw [hhd] at h;exact Option.some.inj h.1,h.2⟩)
   have b0:¬ (c0.toNat=48∧1<s.length):=fun h=>h48 ⟨UInt8.toNat.inj (by rw [h.1];rfl),h.2⟩
   clear h48 hhd
   have kb:=fun (w:World) (l:List UInt8)=>Lib.run_convert_string_bytes (P:=Tryz.prog) w 9 66 5 (str l) Tryz.underlying9 Tryz.underlying66 Tryz.underlying5
   by_cases c48:c0.toNat=48
   · have b1:((c0.toNat:Int)==48)=true:=beq_iff_eq.2 (by omega)
     have b2:¬ (1:Int)<s.length:=by omega
     have b3:¬ 1<s.length:=by omega
     clear b0 c48
     obtain ⟨n,hn⟩:∃ n,n=s.length:=⟨_,rfl⟩
     have HN:=Lib.hid hn
     clear hn
     go_wp2_with fail
     have hbw:=aAk w1 5 s
     have HS:=Lib.hid (aGb w1 5 s n HN.out.symm)
     have HB2:=Lib.hid (dL HB.out hbw)
     have HBK2:=Lib.hid (HBK.out.below hbw HBK.out.lt)
     clear hbw kb
     generalize hk:w1.heap.size=k21 at *
     generalize (Lib.bytesWorld w1 5 (str s))=W2 at *
     have HB:=HB2
     have HBK:=HBK2
     have hnl:n≤1048576:=by rw [HN.out];exact hs
     have HK1:=Lib.hid hk
     clear hk
     go_loopw [4,23] (fun nv iv wr=>∃ k:Nat,k≤n∧nv = .int .u64 (cG (s.take k):Nat)∧iv = .int .i64 k∧wr=W2∧cG (s.take k)<9223372036854775808) (fun _ iv _=>n - (intOf iv).toNat)
     case atStart=>exact ⟨0,by omega,by simp [cG],rfl,rfl,by simp [cG]⟩
     case round=>
      obtain ⟨k,hk,rfl,rfl,rfl,hV63⟩:=hrel
      have hnD:s.length=n:=HN.out.symm
      by_cases hlt:k<n
      · have hkD:k<s.length:=by omega
        obtain ⟨x,hx⟩:∃ x,s[k]?=some x:=⟨_,aO hkD⟩
        obtain ⟨ad,u,hA,-,hu,hca⟩:=HS.out.at1 hlt
        have hu2:u = .int .u8 (x.toNat:Int):=by
         have:=hu
         unfold byt at this
         rw [List.getElem?_map,hx] at this
         exact (Option.some.inj this).symm
        subst hu2
        have hA':=Option.some.inj hA
        subst hA'
        have hca2:wr.cell? ⟨k21,k,none⟩=some (.int .u8 (x.toNat:Int)):=by
         have h:=hca
         simp only [Addr.add,bH] at h
         split at h
         · rename_i h0
           rw [h0]
           exact h
         · exact h
        have htk:s.take (k+1)=s.take k++[x]:=by rw [List.take_add_one,hx];rfl
        obtain ⟨V,hV⟩:∃ V,V=cG (s.take k):=⟨_,rfl⟩
        rw [← hV] at hV63 ⊢
        have hxd:=j6 (bE HD.out x (List.mem_of_getElem? hx))
        obtain ⟨d,hdd⟩:∃ d,d=x.toNat - 48:=⟨_,rfl⟩
        have hsum:cG (s.take (k+1))=10*V+d:=by rw [htk,iU,← hV,hdd]
        have hle:=aEs s (k+1)
        have HMU:=Lib.hid (lD V (by omega))
        obtain ⟨q,hq⟩:∃ q,q=V*10 / 18446744073709551616:=⟨_,rfl⟩
        obtain ⟨r,hr⟩:∃ r,r=V*10 % 18446744073709551616:=⟨_,rfl⟩
        rw [← hq,← hr] at HMU
        have hqr:V*10=18446744073709551616*q+r:=by rw [hq,hr];omega
        have hrl:r<18446744073709551616:=by omega
        have had:=fun W=>aUn r d W
        obtain ⟨c,hc⟩:∃ c,c=(r+d) / 18446744073709551616:=⟨_,rfl⟩
        obtain ⟨t,ht⟩:∃ t,t=(r+d) % 18446744073709551616:=⟨_,rfl⟩
        rw [← hc,← ht] at had
        have hct:r+d=18446744073709551616*c+t:=by rw [hc,ht];omega
        have htl:t<18446744073709551616:=by omega
        have x48:IntKind.u8.wrap ((x.toNat:Int) - 48)=(d:Int):=by rw [IntKind.wrap_u8];omega
        have xd:IntKind.u64.wrap (d:Int)=(d:Int):=by rw [IntKind.wrap_u64];omega
        have hbad:=fun (h:9223372036854775808≤10*V+d)=>(show fP s=false from by unfold fP;exact decide_eq_false (fun g=>by have:=g.2;omega))
        have HSU:=Lib.hid hsum
        have wk:IntKind.i64.wrap ((k:Int)+1)=(k:Int)+1:=by rw [IntKind.wrap_i64];omega
        have hki:(k:Int)<n:=by omega
        by_cases q0:q=0
        · have q1:((q:Int)==0)=true:=beq_iff_eq.2 (by omega)
          by_cases k0:c=0
          · have c1:((c:Int)==0)=true:=beq_iff_eq.2 (by omega)
            by_cases t0:9223372036854775807<t
            · have HBAD:=Lib.hid (hbad (by omega))
              have t1:(9223372036854775807:Int)<t:=by omega
              clear hu hA hca hx htk hV hq hr hqr hrl hc ht hct htl hbad hsum hle hdd hxd hnD
              go_upto_region 10 with (go_at_call 110;(with_reducible refine (HMU.out _).mono ?_);rintro e w' ⟨rfl,rfl⟩)
              refine wp_region_lit ?_
              refine cT (.agg #[.int .u8 0,.int .u64 0]) rfl (by kernel_rfl) ?_
              refine wpList_store_mid rfl 42 (.tmp 2) (.tmp 50) rfl g 0 #[.int .u8 0,.int .u64 0] rfl rfl (HBK.out.there (by decide)) (by kernel_rfl) (by kernel_rfl) ?_
              refine cT (.bool false) rfl (by kernel_rfl) ?_
              refine wpList_nil ?_
              simp only [Exit.then]
              rename_i hK
              refine hK _ _ ?_
              refine wp_ret ?_
              simp (config:={ zetaDelta:=true }) only [Exit.then,Exit.inBlock]
              refine bodyPost_ret (v := .tuple #[.agg #[.int .u8 0,.int .u64 0],.bool false]) (eO g 42 #[.int .u8 0,.int .u64 0] (0,0) _ rfl rfl rfl (HBK.out.setCells [.int .u8 0,.int .u64 0] rfl) Tryz.underlying42 rfl (by kernel_rfl)) rfl ?_
              exact ⟨by rw [qM HBAD.out,HBAD.out],dO (Nat.le_of_eq HG.out.symm) _ _ HB.out⟩
            · have HT:=Lib.hid (show (t:Int)=((cG (s.take (k+1)):Nat):Int)∧cG (s.take (k+1))<9223372036854775808 from ⟨by omega,by omega⟩)
              have t1:¬ (9223372036854775807:Int)<t:=by omega
              clear hu hA hca hx htk hV hq hr hqr hrl hc ht hct htl hbad hsum hle hdd hxd hnD
              go_wp2_with (go_at_call 110;(with_reducible refine (HMU.out _).mono ?_);rintro e w' ⟨rfl,rfl⟩)
              go_roundw
              case rel=>exact ⟨k+1,by omega,by rw [HT.out.1],by go_num,trivial,HT.out.2⟩
              case measure=>simp [intOf];omega
          · have HBAD:=Lib.hid (hbad (by omega))
            have c1:((c:Int)==0)=false:=beq_false_of_ne (by omega)
            clear hu hA hca hx htk hV hq hr hqr hrl hc ht hct htl hbad hsum hle hdd hxd hnD
            go_upto_region 10 with (go_at_call 110;(with_reducible refine (HMU.out _).mono ?_);rintro e w' ⟨rfl,rfl⟩)
            refine wp_region_lit ?_
            refine cT (.agg #[.int .u8 0,.int .u64 0]) rfl (by kernel_rfl) ?_
            refine wpList_store_mid rfl 42 (.tmp 2) (.tmp 50) rfl g 0 #[.int .u8 0,.int .u64 0] rfl rfl (HBK.out.there (by decide)) (by kernel_rfl) (by kernel_rfl) ?_
            refine cT (.bool false) rfl (by kernel_rfl) ?_
            refine wpList_nil ?_
            simp only [Exit.then]
            rename_i hK
            refine hK _ _ ?_
            refine wp_ret ?_
            simp (config:={ zetaDelta:=true }) only [Exit.then,Exit.inBlock]
            refine bodyPost_ret (v := .tuple #[.agg #[.int .u8 0,.int .u64 0],.bool false]) (eO g 42 #[.int .u8 0,.int .u64 0] (0,0) _ rfl rfl rfl (HBK.out.setCells [.int .u8 0,.int .u64 0] rfl) Tryz.underlying42 rfl (by kernel_rfl)) rfl ?_
            exact ⟨by rw [qM HBAD.out,HBAD.out],dO (Nat.le_of_eq HG.out.symm) _ _ HB.out⟩
        · have HBAD:=Lib.hid (hbad (by omega))
          have q1:((q:Int)==0)=false:=beq_false_of_ne (by omega)
          clear hu hA hca hx htk hV hq hr hqr hrl hc ht hct htl hbad hsum hle hdd hxd hnD
          go_upto_region 10 with (go_at_call 110;(with_reducible refine (HMU.out _).mono ?_);rintro e w' ⟨rfl,rfl⟩)
          refine wp_region_lit ?_
          refine cT (.agg #[.int .u8 0,.int .u64 0]) rfl (by kernel_rfl) ?_
          refine wpList_store_mid rfl 42 (.tmp 2) (.tmp 50) rfl g 0 #[.int .u8 0,.int .u64 0] rfl rfl (HBK.out.there (by decide)) (by kernel_rfl) (by kernel_rfl) ?_
          refine cT (.bool false) rfl (by kernel_rfl) ?_
          refine wpList_nil ?_
          simp only [Exit.then]
          rename_i hK
          refine hK _ _ ?_
          refine wp_ret ?_
          simp (config:={ zetaDelta:=true }) only [Exit.then,Exit.inBlock]
          refine bodyPost_ret (v := .tuple #[.agg #[.int .u8 0,.int .u64 0],.bool false]) (eO g 42 #[.int .u8 0,.int .u64 0] (0,0) _ rfl rfl rfl (HBK.out.setCells [.int .u8 0,.int .u64 0] rfl) Tryz.underlying42 rfl (by kernel_rfl)) rfl ?_
          exact ⟨by rw [qM HBAD.out,HBAD.out],dO (Nat.le_of_eq HG.out.symm) _ _ HB.out⟩
      · have hki:¬ (k:Int)<n:=by omega
        have hks:¬ k<s.length:=by omega
        have htk:s.take k=s:=List.take_of_length_le (by omega)
        rw [htk] at hV63 ⊢
        have HOK:=Lib.hid (show fP s=true from by unfold fP;exact decide_eq_true ⟨HNZ.out,hV63⟩)
        obtain ⟨V,hV⟩:∃ V,V=cG s:=⟨_,rfl⟩
        rw [← hV] at hV63 ⊢
        have HV:=Lib.hid hV
        clear htk hnD hV
        go_upto_region 13 with fail
        refine wp_region_lit ?_
        refine cT (.int .u64 (V:Int)) rfl (by kernel_rfl) ?_
        refine cT (.agg #[.int .u8 1,.int .u64 (V:Int)]) rfl (by kernel_rfl) ?_
        refine wpList_store_mid rfl 42 (.tmp 2) (.tmp 54) rfl g 0 #[.int .u8 1,.int .u64 (V:Int)] rfl rfl (HBK.out.there (aH 2)) (by kernel_rfl) (by kernel_rfl) ?_
        refine cT (.bool true) rfl (by kernel_rfl) ?_
        refine wpList_nil ?_
        simp only [Exit.then]
        rename_i hK
        refine hK _ _ ?_
        refine wp_ret ?_
        simp (config:={ zetaDelta:=true }) only [Exit.then,Exit.inBlock]
        refine bodyPost_ret (v := .tuple #[.agg #[.int .u8 1,.int .u64 (V:Int)],.bool true]) (eO g 42 #[.int .u8 1,.int .u64 (V:Int)] (0,0) _ rfl rfl rfl (HBK.out.setCells [.int .u8 1,.int .u64 (V:Int)] rfl) Tryz.underlying42 rfl (by kernel_rfl)) rfl ?_
        exact ⟨by rw [aR5 HOK.out,HOK.out,HV.out],dO (Nat.le_of_eq HG.out.symm) _ _ HB.out⟩
   · have b1:((c0.toNat:Int)==48)=false:=beq_false_of_ne (by omega)
     clear b0 c48
     obtain ⟨n,hn⟩:∃ n,n=s.length:=⟨_,rfl⟩
     have HN:=Lib.hid hn
     clear hn
     go_wp2_with fail
     have hbw:=aAk w1 5 s
     have HS:=Lib.hid (aGb w1 5 s n HN.out.symm)
     have HB2:=Lib.hid (dL HB.out hbw)
     have HBK2:=Lib.hid (HBK.out.below hbw HBK.out.lt)
     clear hbw kb
     generalize hk:w1.heap.size=k21 at *
     generalize (Lib.bytesWorld w1 5 (str s))=W2 at *
     have HB:=HB2
     have HBK:=HBK2
     have hnl:n≤1048576:=by rw [HN.out];exact hs
     have HK1:=Lib.hid hk
     clear hk
     go_loopw [4,23] (fun nv iv wr=>∃ k:Nat,k≤n∧nv = .int .u64 (cG (s.take k):Nat)∧iv = .int .i64 k∧wr=W2∧cG (s.take k)<9223372036854775808) (fun _ iv _=>n - (intOf iv).toNat)
     case atStart=>exact ⟨0,by omega,by simp [cG],rfl,rfl,by simp [cG]⟩
     case round=>
      obtain ⟨k,hk,rfl,rfl,rfl,hV63⟩:=hrel
      have hnD:s.length=n:=HN.out.symm
      by_cases hlt:k<n
      · have hkD:k<s.length:=by omega
        obtain ⟨x,hx⟩:∃ x,s[k]?=some x:=⟨_,aO hkD⟩
        obtain ⟨ad,u,hA,-,hu,hca⟩:=HS.out.at1 hlt
        have hu2:u = .int .u8 (x.toNat:Int):=by
         have:=hu
         unfold byt at this
         rw [List.getElem?_map,hx] at this
         exact (Option.some.inj this).symm
        subst hu2
        have hA':=Option.some.inj hA
        subst hA'
        have hca2:wr.cell? ⟨k21,k,none⟩=some (.int .u8 (x.toNat:Int)):=by
         have h:=hca
         simp only [Addr.add,bH] at h
         split at h
         · rename_i h0
           rw [h0]
           exact h
         · exact h
        have htk:s.take (k+1)=s.take k++[x]:=by rw [List.take_add_one,hx];rfl
        obtain ⟨V,hV⟩:∃ V,V=cG (s.take k):=⟨_,rfl⟩
        rw [← hV] at hV63 ⊢
        have hxd:=j6 (bE HD.out x (List.mem_of_getElem? hx))
        obtain ⟨d,hdd⟩:∃ d,d=x.toNat - 48:=⟨_,rfl⟩
        have hsum:cG (s.take (k+1))=10*V+d:=by rw [htk,iU,← hV,hdd]
        have hle:=aEs s (k+1)
        have HMU:=Lib.hid (lD V (by omega))
        obtain ⟨q,hq⟩:∃ q,q=V*10 / 18446744073709551616:=⟨_,rfl⟩
        obtain ⟨r,hr⟩:∃ r,r=V*10 % 18446744073709551616:=⟨_,rfl⟩
        rw [← hq,← hr] at HMU
        have hqr:V*10=18446744073709551616*q+r:=by rw [hq,hr];omega
        have hrl:r<18446744073709551616:=by omega
        have had:=fun W=>aUn r d W
        obtain ⟨c,hc⟩:∃ c,c=(r+d) / 18446744073709551616:=⟨_,rfl⟩
        obtain ⟨t,ht⟩:∃ t,t=(r+d) % 18446744073709551616:=⟨_,rfl⟩
        rw [← hc,← ht] at had
        have hct:r+d=18446744073709551616*c+t:=by rw [hc,ht];omega
        have htl:t<18446744073709551616:=by omega
        have x48:IntKind.u8.wrap ((x.toNat:Int) - 48)=(d:Int):=by rw [IntKind.wrap_u8];omega
        have xd:IntKind.u64.wrap (d:Int)=(d:Int):=by rw [IntKind.wrap_u64];omega
        have hbad:=fun (h:9223372036854775808≤10*V+d)=>(show fP s=false from by unfold fP;exact decide_eq_false (fun g=>by have:=g.2;omega))
        have HSU:=Lib.hid hsum
        have wk:IntKind.i64.wrap ((k:Int)+1)=(k:Int)+1:=by rw [IntKind.wrap_i64];omega
        have hki:(k:Int)<n:=by omega
        by_cases q0:q=0
        · have q1:((q:Int)==0)=true:=beq_iff_eq.2 (by omega)
          by_cases k0:c=0
          · have c1:((c:Int)==0)=true:=beq_iff_eq.2 (by omega)
            by_cases t0:9223372036854775807<t
            · have HBAD:=Lib.hid (hbad (by omega))
              have t1:(9223372036854775807:Int)<t:=by omega
              clear hu hA hca hx htk hV hq hr hqr hrl hc ht hct htl hbad hsum hle hdd hxd hnD
              go_upto_region 10 with (go_at_call 110;(with_reducible refine (HMU.out _).mono ?_);rintro e w' ⟨rfl,rfl⟩)
              refine wp_region_lit ?_
              refine cT (.agg #[.int .u8 0,.int .u64 0]) rfl (by kernel_rfl) ?_
              refine wpList_store_mid rfl 42 (.tmp 2) (.tmp 50) rfl g 0 #[.int .u8 0,.int .u64 0] rfl rfl (HBK.out.there (by decide)) (by kernel_rfl) (by kernel_rfl) ?_
              refine cT (.bool false) rfl (by kernel_rfl) ?_
              refine wpList_nil ?_
              simp only [Exit.then]
              rename_i hK
              refine hK _ _ ?_
              refine wp_ret ?_
              simp (config:={ zetaDelta:=true }) only [Exit.then,Exit.inBlock]
              refine bodyPost_ret (v := .tuple #[.agg #[.int .u8 0,.int .u64 0],.bool false]) (eO g 42 #[.int .u8 0,.int .u64 0] (0,0) _ rfl rfl rfl (HBK.out.setCells [.int .u8 0,.int .u64 0] rfl) Tryz.underlying42 rfl (by kernel_rfl)) rfl ?_
              exact ⟨by rw [qM HBAD.out,HBAD.out],dO (Nat.le_of_eq HG.out.symm) _ _ HB.out⟩
            · have HT:=Lib.hid (show (t:Int)=((cG (s.take (k+1)):Nat):Int)∧cG (s.take (k+1))<9223372036854775808 from ⟨by omega,by omega⟩)
              have t1:¬ (9223372036854775807:Int)<t:=by omega
              clear hu hA hca hx htk hV hq hr hqr hrl hc ht hct htl hbad hsum hle hdd hxd hnD
              go_wp2_with (go_at_call 110;(with_reducible refine (HMU.out _).mono ?_);rintro e w' ⟨rfl,rfl⟩)
              go_roundw
              case rel=>exact ⟨k+1,by omega,by rw [HT.out.1],by go_num,trivial,HT.out.2⟩
              case measure=>simp [intOf];omega
          · have HBAD:=Lib.hid (hbad (by omega))
            have c1:((c:Int)==0)=false:=beq_false_of_ne (by omega)
            clear hu hA hca hx htk hV hq hr hqr hrl hc ht hct htl hbad hsum hle hdd hxd hnD
            go_upto_region 10 with (go_at_call 110;(with_reducible refine (HMU.out _).mono ?_);rintro e w' ⟨rfl,rfl⟩)
            refine wp_region_lit ?_
            refine cT (.agg #[.int .u8 0,.int .u64 0]) rfl (by kernel_rfl) ?_
            refine wpList_store_mid rfl 42 (.tmp 2) (.tmp 50) rfl g 0 #[.int .u8 0,.int .u64 0] rfl rfl (HBK.out.there (by decide)) (by kernel_rfl) (by kernel_rfl) ?_
            refine cT (.bool false) rfl (by kernel_rfl) ?_
            refine wpList_nil ?_
            simp only [Exit.then]
            rename_i hK
            refine hK _ _ ?_
            refine wp_ret ?_
            simp (config:={ zetaDelta:=true }) only [Exit.then,Exit.inBlock]
            refine bodyPost_ret (v := .tuple #[.agg #[.int .u8 0,.int .u64 0],.bool false]) (eO g 42 #[.int .u8 0,.int .u64 0] (0,0) _ rfl rfl rfl (HBK.out.setCells [.int .u8 0,.int .u64 0] rfl) Tryz.underlying42 rfl (by kernel_rfl)) rfl ?_
            exact ⟨by rw [qM HBAD.out,HBAD.out],dO (Nat.le_of_eq HG.out.symm) _ _ HB.out⟩
        · have HBAD:=Lib.hid (hbad (by omega))
          have q1:((q:Int)==0)=false:=beq_false_of_ne (by omega)
          clear hu hA hca hx htk hV hq hr hqr hrl hc ht hct htl hbad hsum hle hdd hxd hnD
          go_upto_region 10 with (go_at_call 110;(with_reducible refine (HMU.out _).mono ?_);rintro e w' ⟨rfl,rfl⟩)
          refine wp_region_lit ?_
          refine cT (.agg #[.int .u8 0,.int .u64 0]) rfl (by kernel_rfl) ?_
          refine wpList_store_mid rfl 42 (.tmp 2) (.tmp 50) rfl g 0 #[.int .u8 0,.int .u64 0] rfl rfl (HBK.out.there (by decide)) (by kernel_rfl) (by kernel_rfl) ?_
          refine cT (.bool false) rfl (by kernel_rfl) ?_
          refine wpList_nil ?_
          simp only [Exit.then]
          rename_i hK
          refine hK _ _ ?_
          refine wp_ret ?_
          simp (config:={ zetaDelta:=true }) only [Exit.then,Exit.inBlock]
          refine bodyPost_ret (v := .tuple #[.agg #[.int .u8 0,.int .u64 0],.bool false]) (eO g 42 #[.int .u8 0,.int .u64 0] (0,0) _ rfl rfl rfl (HBK.out.setCells [.int .u8 0,.int .u64 0] rfl) Tryz.underlying42 rfl (by kernel_rfl)) rfl ?_
          exact ⟨by rw [qM HBAD.out,HBAD.out],dO (Nat.le_of_eq HG.out.symm) _ _ HB.out⟩
      · have hki:¬ (k:Int)<n:=by omega
        have hks:¬ k<s.length:=by omega
        have htk:s.take k=s:=List.take_of_length_le (by omega)
        rw [htk] at hV63 ⊢
        have HOK:=Lib.hid (show fP s=true from by unfold fP;exact decide_eq_true ⟨HNZ.out,hV63⟩)
        obtain ⟨V,hV⟩:∃ V,V=cG s:=⟨_,rfl⟩
        rw [← hV] at hV63 ⊢
        have HV:=Lib.hid hV
        clear htk hnD hV
        go_upto_region 13 with fail
        refine wp_region_lit ?_
        refine cT (.int .u64 (V:Int)) rfl (by kernel_rfl) ?_
        refine cT (.agg #[.int .u8 1,.int .u64 (V:Int)]) rfl (by kernel_rfl) ?_
        refine wpList_store_mid rfl 42 (.tmp 2) (.tmp 54) rfl g 0 #[.int .u8 1,.int .u64 (V:Int)] rfl rfl (HBK.out.there (aH 2)) (by kernel_rfl) (by kernel_rfl) ?_
        refine cT (.bool true) rfl (by kernel_rfl) ?_
        refine wpList_nil ?_
        simp only [Exit.then]
        rename_i hK
        refine hK _ _ ?_
        refine wp_ret ?_
        simp (config:={ zetaDelta:=true }) only [Exit.then,Exit.inBlock]
        refine bodyPost_ret (v := .tuple #[.agg #[.int .u8 1,.int .u64 (V:Int)],.bool true]) (eO g 42 #[.int .u8 1,.int .u64 (V:Int)] (0,0) _ rfl rfl rfl (HBK.out.setCells [.int .u8 1,.int .u64 (V:Int)] rfl) Tryz.underlying42 rfl (by kernel_rfl)) rfl ?_
        exact ⟨by rw [aR5 HOK.out,HOK.out,HV.out],dO (Nat.le_of_eq HG.out.symm) _ _ HB.out⟩
end
section
def dgN (r:List UInt8):Nat:=(r.takeWhile fun c=>eD (c.toNat:Int)).length
def ptN (r:List UInt8):Bool:=r[dgN r]?==some 46&&((r.drop (dgN r+1)).head?.map fun c=>eD (c.toNat:Int))==some true
def cK (r:List UInt8):Nat:=if ptN r=true then dgN r+1+dgN (r.drop (dgN r+1)) else dgN r
def fB (r:List UInt8):List UInt8:=r.take (cK r)
def whT (s:List UInt8):Int:=if fP s=true then 1 else 0
def whV (s:List UInt8):Int:=if fP s=true then (cG s:Nat) else 0
theorem uZ (s:List UInt8):nL s=#[.int .u8 (whT s),.int .u64 (whV s)]:=by
 unfold nL whT whV
 split <;> rfl
def nmK (r:List UInt8):Int:=if ptN r=true then 3 else 2
def nmT (r:List UInt8):Int:=if ptN r=true then 3 else whT (fB r)
def nmV (r:List UInt8):Int:=if ptN r=true then (rpB (fB r):Nat) else whV (fB r)
def iZ (r:List UInt8):Bool:=if ptN r=true then rpF (fB r)==0 else fP (fB r)
def tkC (k:Int) (t:List UInt8) (a:Int) (ty v:Int):Array Value:=#[.int .i64 k,.string (str t),.int .i64 a,.int .u8 ty,.int .u64 v]
theorem aSx (s:List UInt8) (k:Nat):gQ eD s k=k+dgN (s.drop k):=rfl
theorem qU (r:List UInt8):dgN r≤r.length:=(List.takeWhile_prefix _).length_le
theorem aDu (r:List UInt8):(r.take (dgN r)).all eR=true:=by
 unfold dgN
 rw [← (List.prefix_iff_eq_take.1 (List.takeWhile_prefix (p:=fun c=>eD (c.toNat:Int)) (l:=r)))]
 refine List.all_eq_true.2 (fun x hx=>?_)
 have:=bE (List.all_takeWhile (p:=fun c:UInt8=>eD (c.toNat:Int)) (l:=r)) x hx
 unfold eD at this
 unfold eR
 have h:=of_decide_eq_true this
 exact decide_eq_true (by omega)
theorem aH1 {c:Int} {b:Bool} (h:eD c=b) (w:World):Calls Tryz.prog 61 #[.int .u8 c] w fun e w'=>e = .returned (.bool b)∧w=w':=by
 rw [← h]
 exact qF c w
set_option maxRecDepth 100000 in
set_option maxHeartbeats 6400000 in
theorem aPs (s:List UInt8) (k:Nat) (hs:s.length≤1048576) (hk:k<s.length) (hd:eD ((s[k]).toNat:Int)=true) (w:World):
  Calls Tryz.prog 62 #[.string (str s),.int .i64 (k:Int)] w fun e w'=>e = .returned (.tuple #[.agg (tkC (nmK (s.drop k)) (fB (s.drop k)) k (nmT (s.drop k)) (nmV (s.drop k))),.bool (iZ (s.drop k))])∧Below w.heap.size w w':=by
 obtain ⟨r,hr⟩:∃ r,r=s.drop k:=⟨_,rfl⟩
 obtain ⟨E,hE⟩:∃ E,E=gQ eD s k:=⟨_,rfl⟩
 have hEr:E=k+dgN r:=by rw [hE,hr];rfl
 have hle:=p8 eD s k (by omega)
 have hgt:k<E:=by
  rw [hE,aDn eD s k hk,hd,if_pos rfl]
  have:=p8 eD s (k+1) (by omega)
  omega
 rw [← hE] at hle
 have HR1:=Lib.hid (fun W=>uA 61 eD s k W hs (by omega) (fun args w=>by simp [go_sem]) (fun c w=>qF c w))
 rw [← hE] at HR1
 have hsl:List.take (E - k) (List.drop k s)=r.take (dgN r):=by rw [← hr,hEr];congr 1;omega
 have HNE:=Lib.hid hd
 rw [← hr]
 clear hd
 go_enter Tryz.func62,Tryz.ntmps62
 go_upto_region 1 with fail
 obtain ⟨g,hg⟩:∃ g,g=w.heap.size:=⟨_,rfl⟩
 have hblk0:=Blk.new w 44 (tkC 0 [] 0 0 0)
 have hbel0:=(Below.refl w.heap.size w).alloc (aH _) (.cells (tkC 0 [] 0 0 0) 44)
 obtain ⟨w1,hw1⟩:∃ w1,w1=w.alloc (.cells (tkC 0 [] 0 0 0) 44):=⟨_,rfl⟩
 rw [← hw1] at hblk0 hbel0
 have hw2:w1=w.alloc (.cells #[.int .i64 0,.string (str []),.int .i64 0,.int .u8 0,.int .u64 0] 44):=hw1
 rw [← hw2]
 rw [← hg] at hblk0
 rw [← hg]
 have HB:=Lib.hid hbel0
 have HBK:=Lib.hid hblk0
 have HG:=Lib.hid hg
 clear hblk0 hbel0 hw1 hw2 hg
 have w1k:IntKind.i64.wrap ((E:Int)+1)=(E:Int)+1:=by rw [IntKind.wrap_i64];omega
 have e1:E≤s.length:=hle.2
 have e2:(E:Int)≤s.length:=by omega
 have e3:k≤E:=hle.1
 have e4:(k:Int)≤E:=by omega
 have HQ:=Lib.hid (show r=s.drop k∧E=k+dgN r from ⟨hr,hEr⟩)
 have HR0:=Lib.hid (show r.length=s.length - k from by rw [hr,bI])
 have hgE:∀ j,r[j]?=s[k+j]?:=fun j=>by rw [hr,List.getElem?_drop]
 have hhd:(r.drop (dgN r+1)).head?=s[E+1]?:=by rw [List.head?_drop,hgE,hEr,Nat.add_assoc]
 have hrE:r[dgN r]?=s[E]?:=by rw [hgE,hEr]
 have HF:=Lib.hid (And.intro hhd hrE)
 clear hgE hhd hrE hr hE hEr hle
 by_cases h1:E+1<s.length
 · have hx1:=fun W=>kL s E (by omega) W
   have hx2:∀ W,(Instr.index 9 (.string (str s)) (.int .i64 ((E:Int)+1))).run Tryz.prog W = .ok (.int .u8 ((s[E+1]).toNat:Nat)) W:=fun W=>kL s (E+1) h1 W
   have hp1:s[E]?=some s[E]:=aO (by omega)
   have hp2:s[E+1]?=some s[E+1]:=aO h1
   obtain ⟨x,hx⟩:∃ x,x=s[E]:=⟨_,rfl⟩
   obtain ⟨y,hy⟩:∃ y,y=s[E+1]:=⟨_,rfl⟩
   rw [← hx] at hx1 hp1
   rw [← hy] at hx2 hp2
   have h1i:(E:Int)+1<s.length:=by omega
   clear hx hy
   by_cases h46:x.toNat=46
   · have b46:((x.toNat:Int)==46)=true:=beq_iff_eq.2 (by omega)
     cases hdg:eD (y.toNat:Int) with
     | true=>
       have HDG:=Lib.hid (fun W=>aH1 hdg W)
       have hpt:ptN r=true:=by
        unfold ptN
        rw [HF.out.1,HF.out.2,hp1,hp2,show x=46 from UInt8.toNat.inj (by rw [h46];rfl)]
        simp [hdg]
       clear hp1 hp2 hdg
       have hE2:=p8 eD s (E+1) (by omega)
       have HR2:=Lib.hid (show ∀ W,Calls Tryz.prog 57 #[.string (str s),.int .i64 ((E:Int)+1),.func (.func 61) #[] #[]] W fun e w'=>e = .returned (.int .i64 (gQ eD s (E+1):Nat))∧W=w' from
        fun W=>uA 61 eD s (E+1) W hs (by omega) (fun args w=>by simp [go_sem]) (fun c w=>qF c w))
       obtain ⟨E2,hE2e⟩:∃ E2,E2=gQ eD s (E+1):=⟨_,rfl⟩
       rw [← hE2e] at HR2 hE2
       obtain ⟨T,hT⟩:∃ T,T=fB r:=⟨_,rfl⟩
       have hnl:cK r=E2 - k:=by
        unfold cK
        rw [hpt,if_pos rfl,hE2e,HQ.out.1,List.drop_drop]
        have:=HQ.out.2
        rw [HQ.out.1] at this
        rw [show k+(dgN (s.drop k)+1)=E+1 by omega,aSx]
        omega
       have hsl2:List.take (E2 - k) (List.drop k s)=T:=by rw [hT,← HQ.out.1];unfold fB;rw [hnl]
       have htl:T.length≤1048576:=by rw [← hsl2,aT,bI];omega
       obtain ⟨v,hv⟩:∃ v,rpB T=v:=⟨_,rfl⟩
       obtain ⟨z,hz⟩:∃ z,rpF T=z:=⟨_,rfl⟩
       have HPA:=Lib.hid (show ∀ W,Calls Tryz.prog 89 #[.string (str T)] W fun e w'=>e = .returned (.tuple #[.int .u64 (v:Int),.int .i64 z])∧Below W.heap.size W w' from fun W=>by rw [← hv,← hz];exact aBo T htl W)
       have HV:=Lib.hid (show nmK r=3∧nmT r=3∧nmV r=(v:Int)∧iZ r=(z==0) from by unfold nmK nmT nmV iZ;rw [hpt,if_pos rfl,if_pos rfl,if_pos rfl,if_pos rfl,← hT,hv,hz];exact ⟨rfl,rfl,rfl,rfl⟩)
       have HTT:=Lib.hid hT
       have f1:E2≤s.length:=hE2.2
       have f2:(E2:Int)≤s.length:=by omega
       have f3:k≤E2:=by omega
       have f4:(k:Int)≤E2:=by omega
       clear hpt hT htl hv hz hnl hE2e hE2 hsl
       go_upto_region 5 with (first
        | (go_at_call 57;first | (with_reducible refine (HR1.out _).mono ?_) | (with_reducible refine (HR2.out _).mono ?_)
           rintro e w' ⟨rfl,rfl⟩)
        | (go_at_call 61;(with_reducible refine (HDG.out _).mono ?_);rintro e w' ⟨rfl,rfl⟩)
        | (go_at_call 89;(with_reducible refine (HPA.out _).mono ?_);rintro e w2 ⟨rfl,hb2⟩;have HB2:=Lib.hid (dL HB.out hb2);have HBK2:=Lib.hid (HBK.out.below hb2 HBK.out.lt);clear hb2))
       go_wp2_with (refine wpList_store_mid rfl 44 (.tmp 4) (.tmp 51) rfl g 0 (tkC 3 T k 3 v) rfl rfl (HBK2.out.there (aH 5)) (by kernel_rfl) (by kernel_rfl) ?_)
       (try simp (config:={ zetaDelta:=true }) only [Exit.inBlock,Exit.then])
       refine bodyPost_ret (v := .tuple #[.agg (tkC 3 T k 3 v),.bool (z==0)]) (eO g 44 (tkC 3 T k 3 v) (0,0) _ rfl rfl rfl (HBK2.out.setCells [.int .i64 3,.string (str T),.int .i64 (k:Int),.int .u8 3,.int .u64 (v:Int)] rfl) Tryz.underlying44 rfl (by kernel_rfl)) rfl ?_
       rw [HV.out.1,HV.out.2.1,HV.out.2.2.1,HV.out.2.2.2,← HTT.out]
       exact ⟨rfl,dO (Nat.le_of_eq HG.out.symm) _ _ HB2.out⟩
     | false=>
       have HDG:=Lib.hid (fun W=>aH1 hdg W)
       have hpt:ptN r=false:=by
        unfold ptN
        rw [HF.out.1,hp2]
        simp [hdg]
       clear hp1 hp2 hdg
       obtain ⟨T,hT⟩:∃ T,T=fB r:=⟨_,rfl⟩
       have hT2:T=r.take (dgN r):=by rw [hT];unfold fB cK;rw [hpt,if_neg (by decide)]
       have HV:=Lib.hid (show nmK r=2∧nmT r=whT T∧nmV r=whV T∧iZ r=fP T from by unfold nmK nmT nmV iZ;rw [hpt,if_neg (by decide),if_neg (by decide),if_neg (by decide),if_neg (by decide),hT];exact ⟨rfl,rfl,rfl,rfl⟩)
       have htl:T.length=E - k:=by rw [hT2,aT];have:=qU r;have:=HQ.out.2;omega
       have HWH:=Lib.hid (fun W=>wT T (by omega) (by omega) (by rw [hT2];exact aDu r) W)
       rw [uZ] at HWH
       rw [← hT2] at hsl
       have HTT:=Lib.hid hT
       clear hpt hT hT2 htl
       go_upto_region 6 with (first
        | (go_at_call 57;(with_reducible refine (HR1.out _).mono ?_);rintro e w' ⟨rfl,rfl⟩)
        | (go_at_call 61;(with_reducible refine (HDG.out _).mono ?_);rintro e w' ⟨rfl,rfl⟩))
       go_upto_region 7 with (go_at_call 90;(with_reducible refine (HWH.out _).mono ?_);rintro e w2 ⟨rfl,hb2⟩;have HB2:=Lib.hid (dL HB.out hb2);have HBK2:=Lib.hid (HBK.out.below hb2 HBK.out.lt);clear hb2)
       obtain ⟨ty,hty⟩:∃ ty,ty=whT T:=⟨_,rfl⟩
       obtain ⟨va,hva⟩:∃ va,va=whV T:=⟨_,rfl⟩
       obtain ⟨ok,hok⟩:∃ ok,ok=fP T:=⟨_,rfl⟩
       rw [← hty,← hva,← hok]
       rw [← hty,← hva,← hok] at HV
       obtain ⟨k9,hk9⟩:∃ k9,k9=w2.heap.size:=⟨_,rfl⟩
       have hblk9:=Blk.new w2 42 #[.int .u8 ty,.int .u64 va]
       have hb9:=(Below.refl w2.heap.size w2).alloc (aH _) (.cells #[.int .u8 ty,.int .u64 va] 42)
       obtain ⟨W3,hW3⟩:∃ W3,W3=w2.alloc (.cells #[.int .u8 ty,.int .u64 va] 42):=⟨_,rfl⟩
       rw [← hW3] at hblk9 hb9 ⊢
       rw [← hk9] at hblk9
       have HB3:=Lib.hid (dL HB2.out hb9)
       have HBK3:=Lib.hid (HBK2.out.below hb9 HBK2.out.lt)
       have HNEQ:=Lib.hid (show k9≠g from by have:=HBK2.out.lt;omega)
       have HB9:=Lib.hid hblk9
       have HC:=Lib.hid (show W3.cell? ⟨k9,0,none⟩=some (.int .u8 ty)∧W3.cell? ⟨k9,1,none⟩=some (.int .u64 va) from ⟨by rw [hblk9.cell];rfl,by rw [hblk9.cell];rfl⟩)
       rw [← hk9]
       clear hblk9 hb9 hW3 hk9 hty hva hok
       go_cut [5] (fun s5 wx=>s5 = .bool ok∧Blk wx g 44 (tkC 2 T k ty va)∧Below w.heap.size w wx)
       case first=>
        refine mE (fun W=>W.cell? ⟨k9,0,none⟩=some (.int .u8 ty)∧W.cell? ⟨k9,1,none⟩=some (.int .u64 va)) (.take 0 <| .take 1 <| .take 2 <| .take 3 <| .take 4 <| .take 5 <| .take 6 <| .take 7 <| .run 8 <| .take 9 <| .done) (by kernel_rfl) (by kernel_rfl) (by kernel_rfl) (by kernel_rfl) (by exact HC.out) ?_
        go_wp2_with (first
         | ((with_reducible refine kD ?_)
            go_must (refine sW rfl rfl 44 (.tmp 4) (.tmp 68) rfl g (tkC 2 T k ty va) rfl rfl (Blk.there (w:=W3.drew) HBK3.out (aH 5)) (by kernel_rfl) (by kernel_rfl) ⟨by rw [(Blk.farCells (w:=W3.drew) HB9.out HNEQ.out _ 0).cell];rfl,by rw [(Blk.farCells (w:=W3.drew) HB9.out HNEQ.out _ 0).cell];rfl⟩ ?_)
            simp only [Act.put])
         | ((with_reducible refine jF ?_);refine vX (v:=?_) rfl ?_ (fun w hSw=>?_) ?_;rotate_left 1;(focus rfl);(focus ((try dsimp only at hSw);(first | (go_simp;done) | (go_simp;with_reducible rfl))));simp only [Act.put,List.setIfInBounds_toArray,List.set_cons_zero,List.set_cons_succ]) | ((with_reducible refine jF ?_);refine uI rfl ?_ ?_;(focus rfl);simp only [Act.put,List.setIfInBounds_toArray,List.set_cons_zero,List.set_cons_succ]) | ((with_reducible refine kD ?_);refine sB rfl (fun K hK=>?_);go_simp) | ((with_reducible refine And.intro ?_ (aAq ?_));(focus ((exact HC.out)))) | ((with_reducible refine xD ?_ ?_)) | ((with_reducible refine uN ?_)))
        go_meet
        case rel=>exact ⟨rfl,(HBK3.out.drewN 1).setCells [.int .i64 2,.string (str T),.int .i64 (k:Int),.int .u8 ty,.int .u64 va] rfl,dO (Nat.le_of_eq HG.out.symm) _ _ (below_drewN HB3.out 1)⟩
       case rest=>
        obtain ⟨rfl,h3,hb5⟩:=hcut
        rename_i hK
        refine hK _ _ ?_
        refine wp_ret ?_
        simp (config:={ zetaDelta:=true }) only [Exit.inBlock,Exit.then]
        refine bodyPost_ret (v := .tuple #[.agg (tkC 2 T k ty va),.bool ok]) (eO g 44 (tkC 2 T k ty va) (0,0) _ rfl rfl rfl h3 Tryz.underlying44 rfl (by kernel_rfl)) rfl ?_
        rw [HV.out.1,HV.out.2.1,HV.out.2.2.1,HV.out.2.2.2,← HTT.out]
        exact ⟨rfl,hb5⟩
   · have b46:((x.toNat:Int)==46)=false:=beq_false_of_ne (by omega)
     have hpt:ptN r=false:=by
      unfold ptN
      have:x≠46:=fun e=>h46 (by rw [e];rfl)
      rw [HF.out.2,hp1]
      simp [this]
     clear hp1 hp2
     obtain ⟨T,hT⟩:∃ T,T=fB r:=⟨_,rfl⟩
     have hT2:T=r.take (dgN r):=by rw [hT];unfold fB cK;rw [hpt,if_neg (by decide)]
     have HV:=Lib.hid (show nmK r=2∧nmT r=whT T∧nmV r=whV T∧iZ r=fP T from by unfold nmK nmT nmV iZ;rw [hpt,if_neg (by decide),if_neg (by decide),if_neg (by decide),if_neg (by decide),hT];exact ⟨rfl,rfl,rfl,rfl⟩)
     have htl:T.length=E - k:=by rw [hT2,aT];have:=qU r;have:=HQ.out.2;omega
     have HWH:=Lib.hid (fun W=>wT T (by omega) (by omega) (by rw [hT2];exact aDu r) W)
     rw [uZ] at HWH
     rw [← hT2] at hsl
     have HTT:=Lib.hid hT
     clear hpt hT hT2 htl
     go_upto_region 6 with (first
      | (go_at_call 57;(with_reducible refine (HR1.out _).mono ?_);rintro e w' ⟨rfl,rfl⟩)
      | (go_at_call 61;(with_reducible refine (HDG.out _).mono ?_);rintro e w' ⟨rfl,rfl⟩))
     go_upto_region 7 with (go_at_call 90;(with_reducible refine (HWH.out _).mono ?_);rintro e w2 ⟨rfl,hb2⟩;have HB2:=Lib.hid (dL HB.out hb2);have HBK2:=Lib.hid (HBK.out.below hb2 HBK.out.lt);clear hb2)
     obtain ⟨ty,hty⟩:∃ ty,ty=whT T:=⟨_,rfl⟩
     obtain ⟨va,hva⟩:∃ va,va=whV T:=⟨_,rfl⟩
     obtain ⟨ok,hok⟩:∃ ok,ok=fP T:=⟨_,rfl⟩
     rw [← hty,← hva,← hok]
     rw [← hty,← hva,← hok] at HV
     obtain ⟨k9,hk9⟩:∃ k9,k9=w2.heap.size:=⟨_,rfl⟩
     have hblk9:=Blk.new w2 42 #[.int .u8 ty,.int .u64 va]
     have hb9:=(Below.refl w2.heap.size w2).alloc (aH _) (.cells #[.int .u8 ty,.int .u64 va] 42)
     obtain ⟨W3,hW3⟩:∃ W3,W3=w2.alloc (.cells #[.int .u8 ty,.int .u64 va] 42):=⟨_,rfl⟩
     rw [← hW3] at hblk9 hb9 ⊢
     rw [← hk9] at hblk9
     have HB3:=Lib.hid (dL HB2.out hb9)
     have HBK3:=Lib.hid (HBK2.out.below hb9 HBK2.out.lt)
     have HNEQ:=Lib.hid (show k9≠g from by have:=HBK2.out.lt;omega)
     have HB9:=Lib.hid hblk9
     have HC:=Lib.hid (show W3.cell? ⟨k9,0,none⟩=some (.int .u8 ty)∧W3.cell? ⟨k9,1,none⟩=some (.int .u64 va) from ⟨by rw [hblk9.cell];rfl,by rw [hblk9.cell];rfl⟩)
     rw [← hk9]
     clear hblk9 hb9 hW3 hk9 hty hva hok
     go_cut [5] (fun s5 wx=>s5 = .bool ok∧Blk wx g 44 (tkC 2 T k ty va)∧Below w.heap.size w wx)
     case first=>
      refine mE (fun W=>W.cell? ⟨k9,0,none⟩=some (.int .u8 ty)∧W.cell? ⟨k9,1,none⟩=some (.int .u64 va)) (.take 0 <| .take 1 <| .take 2 <| .take 3 <| .take 4 <| .take 5 <| .take 6 <| .take 7 <| .run 8 <| .take 9 <| .done) (by kernel_rfl) (by kernel_rfl) (by kernel_rfl) (by kernel_rfl) (by exact HC.out) ?_
      go_wp2_with (first
       | ((with_reducible refine kD ?_)
          go_must (refine sW rfl rfl 44 (.tmp 4) (.tmp 68) rfl g (tkC 2 T k ty va) rfl rfl (Blk.there (w:=W3.drew) HBK3.out (aH 5)) (by kernel_rfl) (by kernel_rfl) ⟨by rw [(Blk.farCells (w:=W3.drew) HB9.out HNEQ.out _ 0).cell];rfl,by rw [(Blk.farCells (w:=W3.drew) HB9.out HNEQ.out _ 0).cell];rfl⟩ ?_)
          simp only [Act.put])
       | ((with_reducible refine jF ?_);refine vX (v:=?_) rfl ?_ (fun w hSw=>?_) ?_;rotate_left 1;(focus rfl);(focus ((try dsimp only at hSw);(first | (go_simp;done) | (go_simp;with_reducible rfl))));simp only [Act.put,List.setIfInBounds_toArray,List.set_cons_zero,List.set_cons_succ]) | ((with_reducible refine jF ?_);refine uI rfl ?_ ?_;(focus rfl);simp only [Act.put,List.setIfInBounds_toArray,List.set_cons_zero,List.set_cons_succ]) | ((with_reducible refine kD ?_);refine sB rfl (fun K hK=>?_);go_simp) | ((with_reducible refine And.intro ?_ (aAq ?_));(focus ((exact HC.out)))) | ((with_reducible refine xD ?_ ?_)) | ((with_reducible refine uN ?_)))
      go_meet
      case rel=>exact ⟨rfl,(HBK3.out.drewN 1).setCells [.int .i64 2,.string (str T),.int .i64 (k:Int),.int .u8 ty,.int .u64 va] rfl,dO (Nat.le_of_eq HG.out.symm) _ _ (below_drewN HB3.out 1)⟩
     case rest=>
      obtain ⟨rfl,h3,hb5⟩:=hcut
      rename_i hK
      refine hK _ _ ?_
      refine wp_ret ?_
      simp (config:={ zetaDelta:=true }) only [Exit.inBlock,Exit.then]
      refine bodyPost_ret (v := .tuple #[.agg (tkC 2 T k ty va),.bool ok]) (eO g 44 (tkC 2 T k ty va) (0,0) _ rfl rfl rfl h3 Tryz.underlying44 rfl (by kernel_rfl)) rfl ?_
      rw [HV.out.1,HV.out.2.1,HV.out.2.2.1,HV.out.2.2.2,← HTT.out]
      exact ⟨rfl,hb5⟩
 · have h1i:¬ (E:Int)+1<s.length:=by omega
   have hpt:ptN r=false:=by
    unfold ptN
    rw [HF.out.1,List.getElem?_eq_none (show s.length≤E+1 by omega)]
    simp
   obtain ⟨T,hT⟩:∃ T,T=fB r:=⟨_,rfl⟩
   have hT2:T=r.take (dgN r):=by rw [hT];unfold fB cK;rw [hpt,if_neg (by decide)]
   have HV:=Lib.hid (show nmK r=2∧nmT r=whT T∧nmV r=whV T∧iZ r=fP T from by unfold nmK nmT nmV iZ;rw [hpt,if_neg (by decide),if_neg (by decide),if_neg (by decide),if_neg (by decide),hT];exact ⟨rfl,rfl,rfl,rfl⟩)
   have htl:T.length=E - k:=by rw [hT2,aT];have:=qU r;have:=HQ.out.2;omega
   have HWH:=Lib.hid (fun W=>wT T (by omega) (by omega) (by rw [hT2];exact aDu r) W)
   rw [uZ] at HWH
   rw [← hT2] at hsl
   have HTT:=Lib.hid hT
   clear hpt hT hT2 htl
   go_upto_region 6 with (first
    | (go_at_call 57;(with_reducible refine (HR1.out _).mono ?_);rintro e w' ⟨rfl,rfl⟩)
    | (go_at_call 61;(with_reducible refine (HDG.out _).mono ?_);rintro e w' ⟨rfl,rfl⟩))
   go_upto_region 7 with (go_at_call 90;(with_reducible refine (HWH.out _).mono ?_);rintro e w2 ⟨rfl,hb2⟩;have HB2:=Lib.hid (dL HB.out hb2);have HBK2:=Lib.hid (HBK.out.below hb2 HBK.out.lt);clear hb2)
   obtain ⟨ty,hty⟩:∃ ty,ty=whT T:=⟨_,rfl⟩
   obtain ⟨va,hva⟩:∃ va,va=whV T:=⟨_,rfl⟩
   obtain ⟨ok,hok⟩:∃ ok,ok=fP T:=⟨_,rfl⟩
   rw [← hty,← hva,← hok]
   rw [← hty,← hva,← hok] at HV
   obtain ⟨k9,hk9⟩:∃ k9,k9=w2.heap.size:=⟨_,rfl⟩
   have hblk9:=Blk.new w2 42 #[.int .u8 ty,.int .u64 va]
   have hb9:=(Below.refl w2.heap.size w2).alloc (aH _) (.cells #[.int .u8 ty,.int .u64 va] 42)
   obtain ⟨W3,hW3⟩:∃ W3,W3=w2.alloc (.cells #[.int .u8 ty,.int .u64 va] 42):=⟨_,rfl⟩
   rw [← hW3] at hblk9 hb9 ⊢
   rw [← hk9] at hblk9
   have HB3:=Lib.hid (dL HB2.out hb9)
   have HBK3:=Lib.hid (HBK2.out.below hb9 HBK2.out.lt)
   have HNEQ:=Lib.hid (show k9≠g from by have:=HBK2.out.lt;omega)
   have HB9:=Lib.hid hblk9
   have HC:=Lib.hid (show W3.cell? ⟨k9,0,none⟩=some (.int .u8 ty)∧W3.cell? ⟨k9,1,none⟩=some (.int .u64 va) from ⟨by rw [hblk9.cell];rfl,by rw [hblk9.cell];rfl⟩)
   rw [← hk9]
   clear hblk9 hb9 hW3 hk9 hty hva hok
   go_cut [5] (fun s5 wx=>s5 = .bool ok∧Blk wx g 44 (tkC 2 T k ty va)∧Below w.heap.size w wx)
   case first=>
    refine mE (fun W=>W.cell? ⟨k9,0,none⟩=some (.int .u8 ty)∧W.cell? ⟨k9,1,none⟩=some (.int .u64 va)) (.take 0 <| .take 1 <| .take 2 <| .take 3 <| .take 4 <| .take 5 <| .take 6 <| .take 7 <| .run 8 <| .take 9 <| .done) (by kernel_rfl) (by kernel_rfl) (by kernel_rfl) (by kernel_rfl) (by exact HC.out) ?_
    go_wp2_with (first
     | ((with_reducible refine kD ?_)
        go_must (refine sW rfl rfl 44 (.tmp 4) (.tmp 68) rfl g (tkC 2 T k ty va) rfl rfl (Blk.there (w:=W3.drew) HBK3.out (aH 5)) (by kernel_rfl) (by kernel_rfl) ⟨by rw [(Blk.farCells (w:=W3.drew) HB9.out HNEQ.out _ 0).cell];rfl,by rw [(Blk.farCells (w:=W3.drew) HB9.out HNEQ.out _ 0).cell];rfl⟩ ?_)
        simp only [Act.put])
     | ((with_reducible refine jF ?_);refine vX (v:=?_) rfl ?_ (fun w hSw=>?_) ?_;rotate_left 1;(focus rfl);(focus ((try dsimp only at hSw);(first | (go_simp;done) | (go_simp;with_reducible rfl))));simp only [Act.put,List.setIfInBounds_toArray,List.set_cons_zero,List.set_cons_succ]) | ((with_reducible refine jF ?_);refine uI rfl ?_ ?_;(focus rfl);simp only [Act.put,List.setIfInBounds_toArray,List.set_cons_zero,List.set_cons_succ]) | ((with_reducible refine kD ?_);refine sB rfl (fun K hK=>?_);go_simp) | ((with_reducible refine And.intro ?_ (aAq ?_));(focus ((exact HC.out)))) | ((with_reducible refine xD ?_ ?_)) | ((with_reducible refine uN ?_)))
    go_meet
    case rel=>exact ⟨rfl,(HBK3.out.drewN 1).setCells [.int .i64 2,.string (str T),.int .i64 (k:Int),.int .u8 ty,.int .u64 va] rfl,dO (Nat.le_of_eq HG.out.symm) _ _ (below_drewN HB3.out 1)⟩
   case rest=>
    obtain ⟨rfl,h3,hb5⟩:=hcut
    rename_i hK
    refine hK _ _ ?_
    refine wp_ret ?_
    simp (config:={ zetaDelta:=true }) only [Exit.inBlock,Exit.then]
    refine bodyPost_ret (v := .tuple #[.agg (tkC 2 T k ty va),.bool ok]) (eO g 44 (tkC 2 T k ty va) (0,0) _ rfl rfl rfl h3 Tryz.underlying44 rfl (by kernel_rfl)) rfl ?_
    rw [HV.out.1,HV.out.2.1,HV.out.2.2.1,HV.out.2.2.2,← HTT.out]
    exact ⟨rfl,hb5⟩
end
section
theorem aPm (a:Int) (w:World):(callFunc 141 #[.int .u64 a]).run Tryz.prog w = .ok (.value (.float .f64 a.toNat)) w:=by
 rw [run_callFunc_extern (P:=Tryz.prog) Tryz.func141 (by kernel_rfl) (by kernel_rfl) (e:=Extern.MathFloatBits.float64frombits) (by kernel_rfl) (by kernel_rfl)]
 rfl
theorem aJj (a:Int) (w:World):Calls Tryz.prog 125 #[.int .u64 a] w fun e w'=>e = .returned (.float .f64 a.toNat)∧w=w':=by
 have h1:=aPm
 go_enter Tryz.func125,Tryz.ntmps125
 go_wp2
 go_ret
 exact ⟨rfl,rfl⟩
theorem aCd (a:Int) (w:World):Calls Tryz.prog 120 #[.int .u64 a] w fun e w'=>e = .returned (.int .u64 (toN a.toNat))∧w=w':=by
 go_enter Tryz.func120,Tryz.ntmps120
 go_wp2_with (first
  | (go_at_call 125;refine (aJj _ _).mono ?_;rintro e w' ⟨rfl,rfl⟩)
  | (go_at_call 108;refine (aDe _ _).mono ?_;rintro e w' ⟨rfl,rfl⟩))
 go_ret
 exact ⟨rfl,rfl⟩
theorem aH5 (a:Int) (w:World):Calls Tryz.prog 95 #[.int .u64 a] w fun e w'=>e = .returned (.bool (((toN a.toNat:Nat):Int)==a))∧w=w':=by
 go_enter Tryz.func95,Tryz.ntmps95
 go_wp2_with (first
  | (go_at_call 120;refine (aCd _ _).mono ?_;rintro e w' ⟨rfl,rfl⟩))
 go_ret
 exact ⟨rfl,rfl⟩
end
section
theorem aE2 (b:Nat):Extern.MathFloor.toIntegral "math.archFloor" .down #[.float .f64 b]=(match FloatKind.f64.decode b with
 | .nan s t=>
   if FloatKind.f64.format.quiet t=t then pure (.float .f64 b) else do
   let kept ← choose (.extern "math.Floor,Ceil,Trunc,RoundToEven.signallingNaN kept" 2)
   pure (.float .f64 (if kept==1 then b else FloatKind.f64.encode (.nan s (FloatKind.f64.format.quiet t))))
 | d=>pure (.float .f64 (FloatKind.f64.encode (d.integral .down)))):=rfl
theorem aE8 (b:Nat) (h:fM b=false) (w:World):(callFunc 142 #[.float .f64 b]).run Tryz.prog w = .ok (.value (.float .f64 (flW b))) w:=by
 rw [run_callFunc_extern (P:=Tryz.prog) Tryz.func142 (by kernel_rfl) (by kernel_rfl) (e:=Extern.MathFloor.toIntegral "math.archFloor" .down) (by kernel_rfl) (by kernel_rfl)]
 unfold fM at h
 obtain ⟨D,hD⟩:∃ D,fd.read b=D:=⟨_,rfl⟩
 have hfl:flW b=FloatKind.f64.encode (D.integral .down):=by unfold flW;rw [hD];rfl
 rw [hfl]
 rw [hD] at h
 have hdec:FloatKind.f64.decode b=D:=hD
 rw [aE2,hdec]
 cases D with
 | nan s p=>cases h
 | infinity s=>rfl
 | number s m i=>rfl
theorem aNn (b:Nat) (h:fM b=false) (w:World):Calls Tryz.prog 126 #[.float .f64 b] w fun e w'=>e = .returned (.float .f64 (flW b))∧w=w':=by
 have h1:=aE8 b h
 clear h
 go_enter Tryz.func126,Tryz.ntmps126
 go_wp2
 go_ret
 exact ⟨rfl,rfl⟩
theorem zW (w:World) (k:Nat) (os:Array Obj):Below w.heap.size w (Go.Sort.grow (w.drewN k) os):=
 ⟨rfl,rfl,rfl,by simp [Go.Sort.grow,World.drewN],fun i hi=>by
  simp only [Go.Sort.grow,World.drewN]
  exact Array.getElem?_append_left hi⟩
theorem aRa (n:Nat) (hn:n<9223372036854775808) (w:World) (ht:Tab w):Calls Tryz.prog 144 #[.int .i64 (n:Int)] w fun e w'=>e = .returned (.string (str (Lib.decDigits n)))∧Below w.heap.size w w':=by
 refine (Tryz.strconv_Itoa (n:Int) (by omega) (by omega) w ht).mono ?_
 rintro e w' ⟨rfl,k,os,rfl⟩
 refine ⟨?_,zW _ _ _⟩
 unfold Lib.itoa
 rw [if_neg (by omega),Int.toNat_natCast]
 rfl
def aB4:Value→Nat
 | .string s=>s.size
 | _=>0
theorem aC3 (l:List UInt8):aB4 (.string (str l))=l.length:=str_size l
set_option maxRecDepth 100000 in
theorem aIz (n k:Nat) (hn:n<10000000000000000) (h1:1≤k) (h6:k≤6) (w:World) (ht:Tab w):
  Calls Tryz.prog 127 #[.int .i64 (n:Int),.int .i64 (k:Int)] w fun e w'=>e = .returned (.string (str (fE n k)))∧Below w.heap.size w w':=by
 obtain ⟨D,hD⟩:∃ D,D=Lib.decDigits n:=⟨_,rfl⟩
 have hDl:D.length=Lib.nDigits n:=by rw [hD];exact Lib.decDigits_length n
 have hnd:Lib.nDigits n≤16:=uU (w:=15) (by omega)
 have hnd1:=Lib.nDigits_pos n
 obtain ⟨d,hd⟩:∃ d,d=Lib.nDigits n:=⟨_,rfl⟩
 rw [← hd] at hDl hnd hnd1
 have hpad:=aJm k n
 rw [← hD,← hd] at hpad
 have HP:=Lib.hid (And.intro hpad (show fE n k=Lib.decDigits (n / 10 ^ k)++46::dgw k n from rfl))
 have HI:=Lib.hid (show ∀ W,Tab W→Calls Tryz.prog 144 #[.int .i64 (n:Int)] W fun e w'=>e = .returned (.string (str D))∧Below W.heap.size W w' from fun W hW=>by rw [hD];exact aRa n (by omega) W hW)
 have HDL:=Lib.hid hDl
 have hDl':D.length≤16:=by omega
 clear hD hpad hn hd hDl
 go_enter Tryz.func127,Tryz.ntmps127
 go_wp2_with (go_at_call 144
              refine (HI.out _ ht).mono ?_
              rintro e w1 ⟨rfl,hb⟩
              have HB:=Lib.hid hb
              clear hb)
 go_loopw [5] (fun sv wr=>∃ j:Nat,sv = .string (str (List.replicate j 48++D))∧wr=w1∧(j=0∨j+d≤k+1)) (fun sv _=>20 - aB4 sv)
 case atStart=>exact ⟨0,rfl,rfl,.inl rfl⟩
 case round=>
  obtain ⟨j,rfl,rfl,hj⟩:=hrel
  obtain ⟨S,hS⟩:∃ S,S=List.replicate j 48++D:=⟨_,rfl⟩
  have hSl:S.length=j+d:=by rw [hS,aA,List.length_replicate,HDL.out]
  rw [← hS]
  have HS:=Lib.hid (And.intro hS hSl)
  by_cases hc:j+d≤k
  · have hc1:S.length≤k:=by omega
    have hsum:∀ W,(Op.stringOp .add (str [48]) (str S)).run Tryz.prog W = .ok (.string (str (48::S))) W:=fun W=>by
     rw [run_string_add_sum (P:=Tryz.prog) (w:=W) (str [48]) (str S) (by rw [str_size,str_size];simp;omega),str_append];rfl
    have HJ:=Lib.hid (show (48:UInt8)::S=List.replicate (j+1) 48++D∧(j+1=0∨j+1+d≤k+1) from ⟨by rw [hS,List.replicate_succ];rfl,.inr (by omega)⟩)
    have HM:=Lib.hid (show 20 - aB4 (.string (str (48::S)))<20 - aB4 (.string (str S)) from by rw [aC3,aC3,aB];omega)
    clear hS hSl hj hc
    go_wp2_with fail
    go_roundw
    case rel=>exact ⟨j+1,by rw [← HJ.out.1],trivial,HJ.out.2⟩
    case measure=>exact HM.out
  · have hc1:¬ S.length≤k:=by omega
    obtain ⟨X,hX⟩:∃ X,X=Lib.decDigits (n / 10 ^ k):=⟨_,rfl⟩
    obtain ⟨Y,hY⟩:∃ Y,Y=dgw k n:=⟨_,rfl⟩
    have hYl:Y.length=k:=by rw [hY];exact f8 k n
    have hSXY:S=X++Y:=by
     rw [hS,hX,hY,← HP.out.1]
     congr 2
     omega
    have hL:S.length=X.length+k:=by rw [hSXY,aA,hYl]
    obtain ⟨x,hx⟩:∃ x,x=X.length:=⟨_,rfl⟩
    have hlit:fE n k=X++46::Y:=by rw [HP.out.2,hX,hY]
    have HLIT:=Lib.hid hlit
    have hSl2:S.length≤30:=by omega
    have e1:List.take x S=X:=by rw [hSXY,hx];simp
    have e2:List.take (S.length - x) (List.drop x S)=Y:=by
     rw [List.take_of_length_le (by rw [bI];omega),hSXY,hx];simp
    have hz0:(S.length:Int) - k=x:=by omega
    have hwr:IntKind.i64.wrap (x:Int)=x:=by rw [IntKind.wrap_i64];omega
    have hz1:(x:Int)≤S.length:=by omega
    have hz3:x≤S.length:=by omega
    have hXl:X.length≤30:=by omega
    have hs1:∀ W,(Op.stringOp .add (str X) (str [46])).run Tryz.prog W = .ok (.string (str (X++[46]))) W:=fun W=>by
     rw [run_string_add_sum (P:=Tryz.prog) (w:=W) (str X) (str [46]) (by rw [str_size,str_size];simp;omega),str_append]
    have hs2:∀ W,(Op.stringOp .add (str (X++[46])) (str Y)).run Tryz.prog W = .ok (.string (str (X++46::Y))) W:=fun W=>by
     rw [run_string_add_sum (P:=Tryz.prog) (w:=W) (str (X++[46])) (str Y) (by rw [str_size,str_size];simp;omega),str_append,aK];rfl
    clear hS hSl hj hc hX hY hYl hSXY hL hx hlit hSl2 hXl
    go_wp2_with fail
    go_quiet (fail)
    go_wp2_with fail
    go_ret
    rw [HLIT.out]
    exact ⟨rfl,below_drewN HB.out _⟩
end
section
section
variable {a b r:Nat} (w:World)
theorem aUw (h:toN a=r):Calls Tryz.prog 120 #[.int .u64 (a:Int)] w fun e w'=>e = .returned (.int .u64 (r:Int))∧w=w':=by
 have:=aCd (a:Int) w
 rw [Int.toNat_natCast,h] at this
 exact this
theorem aUi (h:toN a=a):Calls Tryz.prog 95 #[.int .u64 (a:Int)] w fun e w'=>e = .returned (.bool true)∧w=w':=by
 have:=aH5 (a:Int) w
 rw [Int.toNat_natCast,h] at this
 simpa using this
end
end
section
def oL (b k:Nat):Prop:=∀ k' n,k'<k→¬ LitIs b k' n
def PSpec (b:Nat) (s:List UInt8) (e:Int):Prop:=(e=0∧∃ k n,LitIs b k n∧s=fE n k∧oL b k)∨(e=2∧s=[]∧∀ k n,¬ LitIs b k n)
theorem PSpec.uniq {b:Nat} {s s':List UInt8} {e e':Int} (h:PSpec b s e) (g:PSpec b s' e'):s=s'∧e=e':=by
 rcases h with ⟨h1,k,n,h2,h3,h4⟩ | ⟨h1,h2,h3⟩
 · rcases g with ⟨g1,l,m,g2,g3,g4⟩ | ⟨g1,g2,g3⟩
   · have hkl:k=l:=by
      rcases Nat.lt_trichotomy k l with hlt | he | hgt
      · exact absurd h2 (g4 k n hlt)
      · exact he
      · exact absurd g2 (h4 l m hgt)
     subst hkl
     have:=h2.uniq g2
     subst this
     exact ⟨h3.trans g3.symm,h1.trans g1.symm⟩
   · exact absurd h2 (g3 k n)
 · rcases g with ⟨g1,l,m,g2,g3,g4⟩ | ⟨g1,g2,g3⟩
   · exact absurd g2 (h3 l m)
   · exact ⟨h2.trans g2.symm,h1.trans g1.symm⟩
theorem aEc {b:Nat} (h:oL b 7):∀ k n,¬ LitIs b k n:=fun k n hl=>h k n (by have:=hl.2.1;omega) hl
theorem aEu (b:Nat):oL b 1:=fun k n hk hl=>by have:=hl.1;omega
theorem aB1 {b k:Nat} (h:oL b k) (g:∀ n,¬ LitIs b k n):oL b (k+1):=fun k' n hk hl=>by
 rcases aY k' k with h1 | h1
 · exact h k' n h1 hl
 · have:k'=k:=by omega
   subst this
   exact g n hl
theorem aIq {b k r:Nat} (h1:1≤k) (hr:floatBits .mul .f64 b (fX k)=some r) (hN:oL b k) (hg:∀ V:Nat,V≤1000000000000000→¬ IsI (flW r) V):∀ l n,¬ LitIs b l n:=by
 intro l n hl
 rcases Nat.lt_trichotomy l k with c | c | c
 · exact hN l n c hl
 · subst c
   obtain ⟨r',V,e1,_,e3,e4⟩:=hl.floor
   rw [hr] at e1
   injection e1 with e1
   subst e1
   have:=hl.2.2.1
   exact hg V (by omega) e3
 · obtain ⟨r',V,e1,_,e3,e4⟩:=hl.far h1 c
   rw [hr] at e1
   injection e1 with e1
   subst e1
   exact hg V e4 e3
theorem aTm {b:Nat} {M N:Int} (h:IsI b M) (g:IsI b N):M=N:=by
 have h1:=xC h
 have h2:=xC g
 rw [h1] at h2
 exact Option.some.inj h2
theorem aUj {N:Nat} {V:Nat} (hV:V≤1000000000000000) (h:IsI N V):fd.order N w15≠some .gt:=by
 rw [rS h zN]
 intro e
 injection e with e
 rw [Int.compare_eq_gt] at e
 omega
theorem aMd (m k:Nat) (h1:1≤k) (h6:k≤6):(m<1000000000000000∧rpB (fE m k)=aAw m k∧rpF (fE m k)=0)∨(1000000000000000≤m∧rpB (fE m k)=0∧rpF (fE m k)=4):=by
 rcases aY m 1000000000000000 with h | h
 · exact .inl ⟨h,sG h h1 h6⟩
 · exact .inr ⟨h,aTh h h6⟩
theorem aD2 {m k:Nat} (hm:m<10000000000000000) (h6:k≤6):(fE m k).length≤1048576:=by
 rw [k5]
 have:Lib.nDigits (m / 10 ^ k)≤15+1:=uU (Nat.lt_of_le_of_lt (Nat.div_le_self _ _) hm)
 omega
theorem aQg (V:Int) (W:World):(Instr.build 172 #[(0,.int .i64 (V - 1)),(1,.int .i64 V),(2,.int .i64 (V+1))]).run Tryz.prog W = .ok (.agg #[.int .i64 (V - 1),.int .i64 V,.int .i64 (V+1)]) W:=by kernel_rfl
theorem aTv (a b c:Int) (W:World):(Instr.index 172 (.agg #[.int .i64 a,.int .i64 b,.int .i64 c]) (.int .i64 0)).run Tryz.prog W = .ok (.int .i64 a) W:=by kernel_rfl
theorem aTs (a b c:Int) (W:World):(Instr.index 172 (.agg #[.int .i64 a,.int .i64 b,.int .i64 c]) (.int .i64 1)).run Tryz.prog W = .ok (.int .i64 b) W:=by kernel_rfl
theorem aS7 (a b c:Int) (W:World):(Instr.index 172 (.agg #[.int .i64 a,.int .i64 b,.int .i64 c]) (.int .i64 2)).run Tryz.prog W = .ok (.int .i64 c) W:=by kernel_rfl
theorem aU7 (V:Int) (j:Nat) (hj:j<3) (W:World):(Instr.index 172 (.agg #[.int .i64 (V - 1),.int .i64 V,.int .i64 (V+1)]) (.int .i64 (j:Int))).run Tryz.prog W = .ok (.int .i64 (V - 1+(j:Int))) W:=by
 have:j=0∨j=1∨j=2:=by omega
 rcases this with rfl | rfl | rfl
 · have:=aTv (V - 1) V (V+1) W
   rw [show V - 1+((0:Nat):Int)=V - 1 by omega]
   exact this
 · have:=aTs (V - 1) V (V+1) W
   rw [show V - 1+((1:Nat):Int)=V by omega]
   exact this
 · have:=aS7 (V - 1) V (V+1) W
   rw [show V - 1+((2:Nat):Int)=V+1 by omega]
   exact this
end
end Go.Proofs.YtijopiphkgddhaaGreatDoor
