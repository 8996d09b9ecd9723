/- Texts of this proof, one behind the other. Conditions: those in each theorem. -/
import Derived.Test.YtinjiigdijbjeaaGreatDoorSvQ16
import Derived.LaidMore
import Derived.LaidOnce
import Derived.SevenBeyond
import Derived.SevenTiedAt
import Derived.Stop.Joined
import Derived.Test.YtinjiigdijbjeaaGreatDoorRows
import Derived.Test.YtinjiigdijbjeaaGreatDoorCards
import Derived.Test.YtinjiigdijbjeaaGreatDoorTie
import Derived.Test.YtinjiigdijbjeaaGreatDoorSvQ1
import Derived.Deep.DeepHandedRow
import Derived.JoinedCond
import Derived.Lib.LaidTab
set_option linter.unusedVariables false
set_option linter.unusedSimpArgs false
namespace Go.Proofs.YtinjiigdijbjeaaGreatDoor
open Go.RowKit Go.As
section
namespace semValues
open Go.ChangeShapes Go.WideShapes Go.ChangeAt Go.RowKit Go.As
theorem own:ownKnob Tryz.prog.godebug=none:=by kernel_rfl
theorem laidOut:laidOutB Tryz.prog=true:=by kernel_rfl
theorem door_met (os:Os) (args:Array Value):laidMetH Tryz.prog Rows.semValuesUptoRow.laid ((World.doorLaid Tryz.prog 24 os).forCall (fun _ _=>0) ⟨#[],args,[]⟩).memory:=
 laidMetH_of_parts3 (fuel:=8) (laidMet_of_run' 8 (by kernel_rfl) (by kernel_rfl)) (by kernel_rfl) (by kernel_rfl)
set_option maxRecDepth 100000 in
theorem reads (os:Os) {H:Type} (enc:TypeId×Value→H):∃ places,DataW.whole enc Tryz.prog ((World.doorLaid Tryz.prog 24 os).forCall (fun _ _=>0) ⟨#[],#[.agg #[.int .u8 0,.int .u8 0,.int .u64 0,.string ⟨#[]⟩,.slice none 0 0],.slice none 0 0,.slice none 0 0],[]⟩).memory Tryz.f3.params.toList Rows.semValuesSpec.vars false (#[.agg #[.int .u8 0,.int .u8 0,.int .u64 0,.string ⟨#[]⟩,.slice none 0 0],.slice none 0 0,.slice none 0 0]:Array Value).toList 8=some ([.agg [.lit (.int .u8 0),.agg [.lit (.int .u8 0),.lit (.int .u64 0)],.lit (.string []),.nil],.nil,.nil],[],places):=
 ⟨[],by kernel_rfl⟩
set_option maxRecDepth 100000 in
theorem lifted (os:Os) (started:os.Started) (H:Type) (enc:TypeId×Value→H) (F:Stop.Interp):
  ReturnsInHanded {} Tryz.checked os 3 .any ((Rows.OpenSpec.upto Rows.semValuesSpec).preRow enc Tryz.prog Tryz.f3 Rows.semValuesUptoRow.domain false Rows.semValuesUptoRow.laid) (((Rows.OpenSpec.upto Rows.semValuesSpec).at F).post enc Tryz.prog Tryz.f3 false true false false):=by
 obtain ⟨places,hx⟩:=reads os enc
 refine returnsInHanded_of_row (C:=Tryz.checked) (s:=Rows.OpenSpec.upto Rows.semValuesSpec) own started (by kernel_rfl) Tryz.func3
  ⟨World.doorLaid Tryz.prog 24 os,fun _ _=>0,⟨#[],#[.agg #[.int .u8 0,.int .u8 0,.int .u64 0,.string ⟨#[]⟩,.slice none 0 0],.slice none 0 0,.slice none 0 0],[]⟩,rfl,World.shaped_of_RefB (by kernel_rfl) (by kernel_rfl),rfl,(Input.okWide_of_okWideB (by kernel_rfl)).2,OpenSpec.preRow_of_cond 8 hx (by kernel_rfl) (fun k hk=>by cases hk;kernel_rfl) (by kernel_rfl) (door_met os _),by
   simp only [Assume.holds]
   exact ⟨by simp,by simp,fun _=>Modest.zero,by simp,by simp⟩⟩ ?_
 intro W base args ds gs before hval0 hW hcnd hcond _ hL _ _
 have hval:∀ (j:Nat) t v,Tryz.f3.params[j]?=some t→args[j]?=some v→Value.okWide Tryz.prog W .any base t v:=hval0
 have hsmall:=hcond _ rfl
 have hW':=hW
 obtain ⟨p,q,hA0,hV,hpq,hfz,hnd⟩:=hW
 have hA:DataW.TrodAll enc Tryz.prog W 0 (fun _=>true) true Tryz.f3.params.toList args.toList ds p:=hA0
 rw [Tryz.params3] at hA hval
 obtain ⟨v0,vs0,d0,ds0,p0,q0,hargs,rfl,hp0,h0,r0⟩:=trodAll_cons hA
 obtain ⟨v1,vs1,d1,ds1,p1,q1,rfl,rfl,hp1,h1,r1⟩:=trodAll_cons r0
 obtain ⟨v2,vs2,d2,ds2,p2,q2,rfl,rfl,hp2,h2,r2⟩:=trodAll_cons r1
 obtain ⟨rfl,rfl,hpn⟩:=trodAll_nil r2
 obtain rfl:args=#[v0,v1,v2]:=by cases args;simp_all
 obtain ⟨rfl,rfl⟩:=trodVars_none hV
 have hbulk:Rows.uptoBulkAll [d0,d1,d2]≤1048576:=of_decide_eq_true hsmall
 simp only [Rows.uptoBulkAll] at hbulk
 obtain ⟨cs0,rfl,-⟩:=okWide_struct Tryz.underlying29 (hval 0 29 v0 rfl rfl)
 obtain ⟨n0,g0⟩:=h0
 obtain ⟨x0,o0,b0⟩:=ex_openA g0
 obtain ⟨A1,m1,c1,rfl⟩:=okWide_slice Tryz.underlying30 (hval 1 30 v1 rfl rfl)
 obtain ⟨n1,g1⟩:=h1
 obtain ⟨x1,o1,b1⟩:=strs_openL g1
 obtain ⟨A2,m2,c2,rfl⟩:=okWide_slice Tryz.underlying31 (hval 2 31 v2 rfl rfl)
 obtain ⟨n2,g2⟩:=h2
 obtain ⟨x2,o2,b2⟩:=vals_openL g2
 refine (semValues_walk W (tab_of_laid (laid:=Rows.semValuesUptoRow.laid) rfl hL) x0 cs0.toList o0 A1 m1 c1 x1 o1 A2 m2 c2 x2 o2 (by omega)).mono fun e W' ⟨he,hg⟩=>?_
 subst he
 exact ⟨_,rfl,law_post (T:=4) laidOut (by kernel_rfl) Tryz.underlying4 rfl rfl hW' rfl rfl rfl hg⟩
theorem row1:Program.inPlace Tryz.prog 3=Rows.semValuesUptoRow.inPlace:=by kernel_rfl
theorem row2:Program.unfollowed Tryz.prog 3=true:=by kernel_rfl
theorem row3:Program.recurses Tryz.prog 3=true:=by kernel_rfl
theorem row4:Program.varsNamed Tryz.prog 3=Rows.semValuesUptoRow.named:=by kernel_rfl
theorem closed:joinedFacts Tryz.prog 3 Tryz.f3 (Rows.OpenSpec.upto Rows.semValuesSpec).bare Rows.semValuesUptoRow=true:=by
 unfold joinedFacts
 rw [row1,row2,row3,row4]
 kernel_rfl
theorem over:Rows.SemValuesUptoSaid:=
 OpenClaim.holds_of_cond 3 Tryz.f3 rfl rfl rfl rfl rfl rfl rfl ⟨rfl,rfl,rfl,rfl,rfl⟩ rfl rfl rfl rfl rfl (by kernel_rfl) Tryz.func3 closed
  (of_decide_eq_true (by kernel_rfl)) (by unfold Func.isWrapper;rw [if_neg (of_decide_eq_false (by kernel_rfl))];exact ⟨rfl,rfl⟩)
  (fun os started H enc _ F=>by rw [OpenClaim.pre_eq_preRow];exact lifted os started H enc F)
theorem proved:Rows.SemValuesUptoCardSaid:=
 Claim7.holds_tied_plain_at .later [] [.data,.data,.data] true (true, "364921c9d917feb0d8a064dd93df5ff1acfa16d23a4fd0b977f396a4b6209138") true over (fun _ h=>by cases h) (by kernel_rfl) (fun _ h=>by cases h) semValuesUpto_row_tie rfl ⟨rfl,rfl⟩ (by kernel_rfl) rfl
  (fun f fn hf hfn=>by
   obtain rfl:f=3:=Option.some.inj ((show Tryz.prog.funcNamed "assize/assizelaw08.SemValues" = some 3 by kernel_rfl).symm.trans hf) |>.symm
   obtain rfl:fn=Tryz.f3:=(Option.some.inj (Tryz.func3.symm.trans hfn)).symm
   exact ⟨by kernel_rfl,fun j t ht=>by
    rw [Tryz.params3] at ht
    have hm:t∈[29,30,31]:=by simpa using Array.mem_of_getElem? ht
    have hall:([29,30,31].all fun u=>!Tryz.prog.wantsStandIn u)=true:=by kernel_rfl
    exact (show Tryz.prog.wantsStandIn t=false by simpa using List.all_eq_true.1 hall t hm)⟩)
  (by kernel_rfl)
#print axioms proved
end semValues
end
end Go.Proofs.YtinjiigdijbjeaaGreatDoor
