/- Texts of this proof, one behind the other. Conditions: those in each theorem. -/
import Derived.Test.YtiacalnkmnckjaaGreatDoorCnQ15
import Derived.LaidMore
import Derived.LaidOnce
import Derived.SevenBeyond
import Derived.SevenTiedAt
import Derived.Stop.Joined
import Derived.Test.YtiacalnkmnckjaaGreatDoorRows
import Derived.Test.YtiacalnkmnckjaaGreatDoorCards
import Derived.Test.YtiacalnkmnckjaaGreatDoorTie
import Derived.Test.YtiacalnkmnckjaaGreatDoorCnQ1
import Derived.Deep.DeepHandedRow
import Derived.JoinedCond
import Derived.Lib.LaidTab
set_option linter.unusedVariables false
set_option linter.unusedSimpArgs false
namespace Go.Proofs.YtiacalnkmnckjaaGreatDoor
open Go.RowKit Go.As
section
namespace checkNames
open Go.ChangeShapes Go.WideShapes Go.ChangeAt Go.RowKit Go.As
theorem own:ownKnob Tryz.prog.godebug=none:=by kernel_rfl
theorem laidOut:laidOutB Tryz.prog=true:=by kernel_rfl
theorem door_met (os:Os) (args:Array Value):laidMetH Tryz.prog Rows.checkNamesUptoRow.laid ((World.doorLaid Tryz.prog 24 os).forCall (fun _ _=>0) ⟨#[],args,[]⟩).memory:=
 laidMetH_of_parts3 (fuel:=8) (laidMet_of_run' 8 (by kernel_rfl) (by kernel_rfl)) (by kernel_rfl) (by kernel_rfl)
set_option maxRecDepth 100000 in
theorem reads (os:Os) {H:Type} (enc:TypeId×Value→H):∃ places,DataW.whole enc Tryz.prog ((World.doorLaid Tryz.prog 24 os).forCall (fun _ _=>0) ⟨#[],#[.agg #[.slice none 0 0,.slice none 0 0,.slice none 0 0],.int .i64 0,.string ⟨#[]⟩],[]⟩).memory Tryz.f10.params.toList Rows.checkNamesSpec.vars false (#[.agg #[.slice none 0 0,.slice none 0 0,.slice none 0 0],.int .i64 0,.string ⟨#[]⟩]:Array Value).toList 8=some ([.agg [.nil,.nil,.nil],.lit (.int .i64 0),.lit (.string [])],[],places):=
 ⟨[],by kernel_rfl⟩
set_option maxRecDepth 100000 in
theorem lifted (os:Os) (started:os.Started) (H:Type) (enc:TypeId×Value→H) (F:Stop.Interp):
  ReturnsInHanded {} Tryz.checked os 10 .any ((Rows.OpenSpec.upto Rows.checkNamesSpec).preRow enc Tryz.prog Tryz.f10 Rows.checkNamesUptoRow.domain false Rows.checkNamesUptoRow.laid) (((Rows.OpenSpec.upto Rows.checkNamesSpec).at F).post enc Tryz.prog Tryz.f10 false true false false):=by
 obtain ⟨places,hx⟩:=reads os enc
 refine returnsInHanded_of_row (C:=Tryz.checked) (s:=Rows.OpenSpec.upto Rows.checkNamesSpec) own started (by kernel_rfl) Tryz.func10
  ⟨World.doorLaid Tryz.prog 24 os,fun _ _=>0,⟨#[],#[.agg #[.slice none 0 0,.slice none 0 0,.slice none 0 0],.int .i64 0,.string ⟨#[]⟩],[]⟩,rfl,World.shaped_of_RefB (by kernel_rfl) (by kernel_rfl),rfl,(Input.okWide_of_okWideB (by kernel_rfl)).2,OpenSpec.preRow_of_cond 8 hx (by kernel_rfl) (fun k hk=>by cases hk;kernel_rfl) (by kernel_rfl) (door_met os _),by
   simp only [Assume.holds]
   exact ⟨by simp,by simp,fun _=>Modest.zero,by simp,by simp⟩⟩ ?_
 intro W base args ds gs before hval0 hW hcnd hcond _ hL _ _
 have hval:∀ (j:Nat) t v,Tryz.f10.params[j]?=some t→args[j]?=some v→Value.okWide Tryz.prog W .any base t v:=hval0
 have hsmall:=hcond _ rfl
 have hW':=hW
 obtain ⟨p,q,hA0,hV,hpq,hfz,hnd⟩:=hW
 have hA:DataW.TrodAll enc Tryz.prog W 0 (fun _=>true) true Tryz.f10.params.toList args.toList ds p:=hA0
 rw [Tryz.params10] at hA hval
 obtain ⟨v0,vs0,d0,ds0,p0,q0,hargs,rfl,hp0,h0,r0⟩:=trodAll_cons hA
 obtain ⟨v1,vs1,d1,ds1,p1,q1,rfl,rfl,hp1,h1,r1⟩:=trodAll_cons r0
 obtain ⟨v2,vs2,d2,ds2,p2,q2,rfl,rfl,hp2,h2,r2⟩:=trodAll_cons r1
 obtain ⟨rfl,rfl,hpn⟩:=trodAll_nil r2
 obtain rfl:args=#[v0,v1,v2]:=by cases args;simp_all
 obtain ⟨rfl,rfl⟩:=trodVars_none hV
 have hbulk:Rows.uptoBulkAll [d0,d1,d2]≤1048576:=of_decide_eq_true hsmall
 simp only [Rows.uptoBulkAll] at hbulk
 obtain ⟨cs0,rfl,-⟩:=okWide_struct Tryz.underlying26 (hval 0 26 v0 rfl rfl)
 obtain ⟨n0,g0⟩:=h0
 obtain ⟨x0,o0,b0⟩:=pg_open g0
 obtain ⟨a1,rfl,rfl,-,w1⟩:=open_int Tryz.underlying3 (hval 1 3 v1 rfl rfl) h1
 obtain ⟨s2,rfl,rfl,-,w2⟩:=ChangeMaps.open_string Tryz.underlying9 (hval 2 9 v2 rfl rfl) h2
 obtain ⟨l2,rfl⟩:=exists_str s2
 rw [str_size] at w2
 have b2:l2.length+1≤Rows.uptoBulk (DataW.lit (H:=H) (.string (str l2).data.toList)):=by simp [Rows.uptoBulk,str_data]
 refine (checkNames_walk W (tab_of_laid (laid:=Rows.checkNamesUptoRow.laid) rfl hL) x0 cs0.toList o0 a1 w1 l2 w2 (by omega)).mono fun e W' ⟨he,hg⟩=>?_
 subst he
 exact ⟨_,rfl,law_post (T:=4) laidOut (by kernel_rfl) Tryz.underlying4 rfl rfl hW' rfl rfl rfl hg⟩
theorem row1:Program.inPlace Tryz.prog 10=Rows.checkNamesUptoRow.inPlace:=by kernel_rfl
theorem row2:Program.unfollowed Tryz.prog 10=true:=by kernel_rfl
theorem row3:Program.recurses Tryz.prog 10=true:=by kernel_rfl
theorem row4:Program.varsNamed Tryz.prog 10=Rows.checkNamesUptoRow.named:=by kernel_rfl
theorem closed:joinedFacts Tryz.prog 10 Tryz.f10 (Rows.OpenSpec.upto Rows.checkNamesSpec).bare Rows.checkNamesUptoRow=true:=by
 unfold joinedFacts
 rw [row1,row2,row3,row4]
 kernel_rfl
theorem over:Rows.CheckNamesUptoSaid:=
 OpenClaim.holds_of_cond 10 Tryz.f10 rfl rfl rfl rfl rfl rfl rfl ⟨rfl,rfl,rfl,rfl,rfl⟩ rfl rfl rfl rfl rfl (by kernel_rfl) Tryz.func10 closed
  (of_decide_eq_true (by kernel_rfl)) (by unfold Func.isWrapper;rw [if_neg (of_decide_eq_false (by kernel_rfl))];exact ⟨rfl,rfl⟩)
  (fun os started H enc _ F=>by rw [OpenClaim.pre_eq_preRow];exact lifted os started H enc F)
theorem proved:Rows.CheckNamesUptoCardSaid:=
 Claim7.holds_tied_plain_at .later [] [.data,.data,.data] true (true, "5b2c5c639a09f3ed05560c227b0a2cd6417d8ccda383ce741b7ea4718afeabac") true over (fun _ h=>by cases h) (by kernel_rfl) (fun _ h=>by cases h) checkNamesUpto_row_tie rfl ⟨rfl,rfl⟩ (by kernel_rfl) rfl
  (fun f fn hf hfn=>by
   obtain rfl:f=10:=Option.some.inj ((show Tryz.prog.funcNamed "assize/assizelaw07.CheckNames" = some 10 by kernel_rfl).symm.trans hf) |>.symm
   obtain rfl:fn=Tryz.f10:=(Option.some.inj (Tryz.func10.symm.trans hfn)).symm
   exact ⟨by kernel_rfl,fun j t ht=>by
    rw [Tryz.params10] at ht
    have hm:t∈[26,3,9]:=by simpa using Array.mem_of_getElem? ht
    have hall:([26,3,9].all fun u=>!Tryz.prog.wantsStandIn u)=true:=by kernel_rfl
    exact (show Tryz.prog.wantsStandIn t=false by simpa using List.all_eq_true.1 hall t hm)⟩)
  (by kernel_rfl)
#print axioms proved
end checkNames
end
end Go.Proofs.YtiacalnkmnckjaaGreatDoor
