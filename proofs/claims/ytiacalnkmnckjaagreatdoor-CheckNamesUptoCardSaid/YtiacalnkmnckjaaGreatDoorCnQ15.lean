/- Texts of this proof, one behind the other. Conditions: those in each theorem. -/
import Derived.Test.YtiacalnkmnckjaaGreatDoorCnQ14
import Derived.Test.YtiacalnkmnckjaaGreatDoorCnQ8
import Derived.Test.YtiacalnkmnckjaaGreatDoorCnQ7
import Derived.Test.YtiacalnkmnckjaaGreatDoorCnQ13
import Derived.Test.YtiacalnkmnckjaaGreatDoorCnQ9
set_option linter.unusedVariables false
set_option linter.unusedSimpArgs false
namespace Go.Proofs.YtiacalnkmnckjaaGreatDoor
open Go.RowKit Go.As
section
def PgPrQ (p:Pg) (w:World) (v:Value) (w':World):Prop:=∃ ds:List Value,v = .agg ds.toArray∧PgAt (NewS w w') w' p ds
def LInvQ {α:Type} (At:(Nat→Prop)→World→α→List Value→Prop) (e sz base:Nat) (Bq:Nat→Prop) (wq:World) (L:List α) (b:Nat) (i:CI α) (B:Nat→Prop) (w1:World):Prop:=
 L=i.l1++i.l2∧Sy.Keep Bq wq w1∧(∀ k,Bq k→B k)∧(∀ k,B k→k<w1.heap.size)∧LsAt (At (fun k=>B k∧base≤k∧Soft w1 k) w1) i.l1 i.xs∧Sy.RowAt e sz b i.l1.length i.xs i.X i.ob
open Go.Sy in
set_option maxRecDepth 100000 in
theorem copyProgramQ_any (p:Pg) (cs:List Value) (w:World) (hbd0:pwt p≤1000000000000) (hp:PgAt (·<w.heap.size) w p cs):
  Calls Tryz.prog 14 #[.agg cs.toArray] w fun r w'=>∃ v,r = .returned v∧PgPrQ p w v w'∧Below w.heap.size w w':=by
 obtain ⟨a,cap,xs,b,cap2,ys,d,cap3,zs,rfl,hxs,hxt,hys,hyt,hzs,hzt⟩:=hp
 obtain ⟨ns,hns⟩:∃ n,n=p.shared.length:=⟨_,rfl⟩
 obtain ⟨nm,hnm⟩:∃ n,n=p.mutexes.length:=⟨_,rfl⟩
 obtain ⟨nt,hnt⟩:∃ n,n=p.threads.length:=⟨_,rfl⟩
 have hbd:ns+nm+thws p.threads≤1000000000000:=by rw [hns,hnm];exact hbd0
 have hnl:=thws_len p.threads
 rw [← hns] at hxs ⊢
 rw [← hnm] at hys ⊢
 rw [← hnt] at hzs ⊢
 refine eN [.agg #[.slice a ns cap,.slice b nm cap2,.slice d nt cap3]] Tryz.func14 (fun γ0 hγ0=>?_)
 refine rk ?_
 refine good_lock [gz] (gz+1) (by kernel_rfl) (fun b hb=>hγ0 b (Nat.le_trans (Nat.le_add_right _ 1) hb)) ?_
 intro γ1 B1 w1 hle1 hγ1 hB01 hB1 hk01 hLk
 have hL1:∀ b,hasNat b [gz]=true→∃ p,γ1 b=some p∧B1 p.1:=fun b hb=>let ⟨p,h1,h2,_⟩:=hLk b hb;⟨p,h1,h2⟩
 have hxs1:=(hxs.keep hk01).mono hB01
 have hys1:=(hys.keep hk01).mono hB01
 refine good_plan sy_mixed (.take 1 (.take 2 (.take 4 (.take 5 (.alt (.run 8 (.run 0 (.run 3 (.run 6 (.take 7 .done))))) (.run 0 (.alt (.run 8 (.run 3 (.run 6 (.take 7 .done)))) (.run 3 (.alt (.run 8 (.run 6 (.take 7 .done))) (.run 6 (.take 7 (.run 8 .done)))))))))))) 9 (by kernel_rfl) ?_
 refine p_takes [gz] 4 (Bs:=B1) (ws:=w1) (by kernel_rfl) (fun _ h=>h) hL1 ?_
 refine p_alt (by kernel_rfl) ?a0 ?b0
 case' a0=>
  refine pR (Keep B1 w1) (fun _ h=>h) ?_
  refine rk ?_
  refine pR (Keep B1 w1) (fun _ h=>h) ?_
  refine rk ?_
  refine pR (Keep B1 w1) (fun _ h=>h) ?_
  refine good_fix 6 (gz+3) 3 (by kernel_rfl) (by kernel_rfl) (by kernel_rfl) (fun k=>?_)
  refine good_appM (.slice (some ⟨k,0,none⟩) 0 0) (.slice a ns cap) [22,22] (by kernel_rfl) (fun W hk=>app_noneT (z := .agg #[.string { data:=#[] },.int .u8 0,.int .u64 0]) (e:=67) (sz:=3) (bytes:=32) (by kernel_rfl) (by kernel_rfl) (by kernel_rfl) (by kernel_rfl) hxs1 (by omega) (by unfold maxLen;omega) W hk) ?_
  rintro wA r w2 B2 hkA ⟨a2,cap22,rfl,hsl2⟩ hbl2 hk12 hB12 hBn2 hB2
  have hS2:∀ W,Keep B2 w2 W→Keep B1 w1 W:=fun W hk=>hk12.trans (hk.mono hB12)
  refine rk ?_
  refine pR (Keep B1 w1) hS2 ?_
  have hys2:=fun W (hk:Keep B2 w2 W)=>((hys.keep (hk01.trans ((hS2 W hk).mono hB01))).mono (fun k h=>Nat.lt_of_lt_of_le h (hk01.trans ((hS2 W hk).mono hB01)).size))
  refine gM [.slice b nm cap2] (fun W hk=>copyTextsQ_any b nm cap2 ys W (by omega) (hys2 W hk)) ?_
  rintro wB r w3 B3 hkB ⟨a3,cap33,rfl,hsl3⟩ hbl3 hk23 hB23 hBn3 hB3
  have hS3:∀ W,Keep B3 w3 W→Keep B1 w1 W:=fun W hk=>hS2 W (hk23.trans (hk.mono hB23))
  refine rk ?_
  refine p_takes [gz] 1 (Bs:=B1) (ws:=w1) (by kernel_rfl) hS3 hL1 ?_
  have v2:=True.intro
 case' b0=>
  refine pR (Keep B1 w1) (fun _ h=>h) ?_
  refine rk ?_
  refine p_alt (by kernel_rfl) ?a1 ?b1
  case' a1=>
   refine pR (Keep B1 w1) (fun _ h=>h) ?_
   refine rk ?_
   refine pR (Keep B1 w1) (fun _ h=>h) ?_
   refine good_fix 6 (gz+2) 3 (by kernel_rfl) (by kernel_rfl) (by kernel_rfl) (fun k=>?_)
   refine good_appM (.slice (some ⟨k,0,none⟩) 0 0) (.slice a ns cap) [22,22] (by kernel_rfl) (fun W hk=>app_noneT (z := .agg #[.string { data:=#[] },.int .u8 0,.int .u64 0]) (e:=67) (sz:=3) (bytes:=32) (by kernel_rfl) (by kernel_rfl) (by kernel_rfl) (by kernel_rfl) hxs1 (by omega) (by unfold maxLen;omega) W hk) ?_
   rintro wA r w2 B2 hkA ⟨a2,cap22,rfl,hsl2⟩ hbl2 hk12 hB12 hBn2 hB2
   have hS2:∀ W,Keep B2 w2 W→Keep B1 w1 W:=fun W hk=>hk12.trans (hk.mono hB12)
   refine rk ?_
   refine pR (Keep B1 w1) hS2 ?_
   have hys2:=fun W (hk:Keep B2 w2 W)=>((hys.keep (hk01.trans ((hS2 W hk).mono hB01))).mono (fun k h=>Nat.lt_of_lt_of_le h (hk01.trans ((hS2 W hk).mono hB01)).size))
   refine gM [.slice b nm cap2] (fun W hk=>copyTextsQ_any b nm cap2 ys W (by omega) (hys2 W hk)) ?_
   rintro wB r w3 B3 hkB ⟨a3,cap33,rfl,hsl3⟩ hbl3 hk23 hB23 hBn3 hB3
   have hS3:∀ W,Keep B3 w3 W→Keep B1 w1 W:=fun W hk=>hS2 W (hk23.trans (hk.mono hB23))
   refine rk ?_
   refine p_takes [gz] 1 (Bs:=B1) (ws:=w1) (by kernel_rfl) hS3 hL1 ?_
   have v3:=True.intro
  case' b1=>
   refine pR (Keep B1 w1) (fun _ h=>h) ?_
   refine good_fix 6 (gz+2) 3 (by kernel_rfl) (by kernel_rfl) (by kernel_rfl) (fun k=>?_)
   refine good_appM (.slice (some ⟨k,0,none⟩) 0 0) (.slice a ns cap) [22,22] (by kernel_rfl) (fun W hk=>app_noneT (z := .agg #[.string { data:=#[] },.int .u8 0,.int .u64 0]) (e:=67) (sz:=3) (bytes:=32) (by kernel_rfl) (by kernel_rfl) (by kernel_rfl) (by kernel_rfl) hxs1 (by omega) (by unfold maxLen;omega) W hk) ?_
   rintro wA r w2 B2 hkA ⟨a2,cap22,rfl,hsl2⟩ hbl2 hk12 hB12 hBn2 hB2
   have hS2:∀ W,Keep B2 w2 W→Keep B1 w1 W:=fun W hk=>hk12.trans (hk.mono hB12)
   refine rk ?_
   refine p_alt (by kernel_rfl) ?a2 ?b2
   case' a2=>
    refine pR (Keep B1 w1) hS2 ?_
    refine rk ?_
    refine pR (Keep B1 w1) hS2 ?_
    have hys2:=fun W (hk:Keep B2 w2 W)=>((hys.keep (hk01.trans ((hS2 W hk).mono hB01))).mono (fun k h=>Nat.lt_of_lt_of_le h (hk01.trans ((hS2 W hk).mono hB01)).size))
    refine gM [.slice b nm cap2] (fun W hk=>copyTextsQ_any b nm cap2 ys W (by omega) (hys2 W hk)) ?_
    rintro wB r w3 B3 hkB ⟨a3,cap33,rfl,hsl3⟩ hbl3 hk23 hB23 hBn3 hB3
    have hS3:∀ W,Keep B3 w3 W→Keep B1 w1 W:=fun W hk=>hS2 W (hk23.trans (hk.mono hB23))
    refine rk ?_
    refine p_takes [gz] 1 (Bs:=B1) (ws:=w1) (by kernel_rfl) hS3 hL1 ?_
    have v3:=True.intro
   case' b2=>
    refine pR (Keep B1 w1) hS2 ?_
    have hys2:=fun W (hk:Keep B2 w2 W)=>((hys.keep (hk01.trans ((hS2 W hk).mono hB01))).mono (fun k h=>Nat.lt_of_lt_of_le h (hk01.trans ((hS2 W hk).mono hB01)).size))
    refine gM [.slice b nm cap2] (fun W hk=>copyTextsQ_any b nm cap2 ys W (by omega) (hys2 W hk)) ?_
    rintro wB r w3 B3 hkB ⟨a3,cap33,rfl,hsl3⟩ hbl3 hk23 hB23 hBn3 hB3
    have hS3:∀ W,Keep B3 w3 W→Keep B1 w1 W:=fun W hk=>hS2 W (hk23.trans (hk.mono hB23))
    refine rk ?_
    refine p_takes [gz] 1 (Bs:=B1) (ws:=w1) (by kernel_rfl) hS3 hL1 ?_
    refine pR (Keep B1 w1) hS3 ?_
    refine rk ?_
    have v3:=True.intro
 all_goals
  first
  | clear v2
    refine p_done (by kernel_rfl) ?_ (Keep B1 w1) (by kernel_rfl) hS3
    refine rk ?_
    refine good_toLp ?_
    have hk03:Keep (·<w.heap.size) w w3:=hk01.trans (((hk12.trans (hk23.mono hB12))).mono hB01)
    have hB13:∀ k,B1 k→B3 k:=fun k h=>hB23 k (hB12 k h)
    have hszA:=hkA.size
    have hszB:=hkB.size
    have hsz01:=hk01.size
    have hsz12:=hk12.size
    have hsz23:=hk23.size
    have hsa:SlAt (fun k=>B3 k∧w.heap.size≤k∧Soft w3 k) w3 a2 ns 3 xs:=((hsl2.keep (hk23.mono fun k h=>hBn2 k h.1.1 h.1.2)).mono fun k h=>⟨hB23 k (hBn2 k h.1.1 h.1.2),(by have:=h.1.1;omega),h.2.keep hk23 (hBn2 k h.1.1 h.1.2)⟩)
    have hsb:SlAt (fun k=>B3 k∧w.heap.size≤k∧Soft w3 k) w3 a3 nm 1 ys:=hsl3.mono fun k h=>⟨hBn3 k h.1.1 h.1.2,(by have:=h.1.1;omega),h.2⟩
    refine good_loopB (fun i:CI Th=>i.l2.length) (LInvQ ThAt 58 3 w.heap.size B3 w3 p.threads (gz+4)) (fun i=>⟨mkT [(1,.ptr gz 0),(2,.ptr (gz+1) 0),(3,.ptr (gz+2) 0),(4,vI (i.l1.length:Int))],mkH [(gz,some (.cells 26 false true true 3 (putL .leaf 0 [vL a ns cap,vL b nm cap2,vL d nt cap3]))),(gz+1,bK 26 3 [vL none 0 0,vL none 0 0,vL none 0 0]),(gz+2,bK 26 3 [vL a2 ns cap22,vL a3 nm cap33,i.X]),(gz+4,i.ob)],gz+5,[]⟩)
     ⟨[],p.threads,[],vL none 0 0,none⟩ ⟨rfl,Keep.refl _ _,fun k h=>h,hB3,rfl,RowAt.nil _ _ _⟩ (by kernel_rfl)
     (fun h=>gU _ [(1,.ptr gz 0),(2,.ptr (gz+1) 0),(3,.ptr (gz+2) 0),(4,vI (([]:List Th).length:Int))] [(gz,some (.cells 26 false true true 3 (putL .leaf 0 [vL a ns cap,vL b nm cap2,vL d nt cap3]))),(gz+1,bK 26 3 [vL none 0 0,vL none 0 0,vL none 0 0]),(gz+2,bK 26 3 [vL a2 ns cap22,vL a3 nm cap33,vL none 0 0]),(gz+4,none)] (gz+5) (fun b hb=>hγ1 b (by omega)) h) ?_
    rintro ⟨l1,l2,xk,X,ob⟩ B5 w5 ⟨hI,hk35,hB35,hB5,hxk,hrow⟩ ih
    simp only at hI hxk hrow
    have hn2:nt=l1.length+l2.length:=by rw [hnt,hI,List.length_append]
    have hw1:thws p.threads=thws l1+thws l2:=by rw [hI,thws_app]
    have hB05:∀ k,k<w.heap.size→B5 k:=fun k h=>hB35 k (hB13 k (hB01 k h))
    have hk05:Keep (·<w.heap.size) w w5:=hk03.trans (hk35.mono fun k h=>hB13 k (hB01 k h))
    have hzs1:SlAt B5 w5 d nt 3 zs:=(hzs.keep hk05).mono hB05
    have hzt1:=hzt.imp (fun _ _ h=>ThAt.keep hk05 hB05 h)
    have hXlt:avLt (gz+5) X=true:=hrow.lt (by omega)
    refine rk ?_
    cases l2 with
    | nil=>
      have hn3:nt=l1.length:=by rw [hn2];simp
      refine ky (l1.length:Int) (nt:Int) (by omega) ?_
      have hfin:∀ (γ:Gm) (W:World) (v x:Value) (h:Hp) (cc:Nat),v = .agg #[.slice a2 ns cap22,.slice a3 nm cap33,x]→VR γ X x→HR B5 Tryz.prog.globals.size γ h cc W→h.get (gz+4)=ob→Keep B5 w5 W→(∃ v',Ending.returned v = .returned v'∧PgPrQ p w v' W∧Below w.heap.size w W):=by
       intro γ W v x h cc hv hx hH hb hkW
       subst hv
       obtain ⟨hown,_⟩:=row_own (base:=w.heap.size) hrow hb hH hx (fun k hk=>Nat.le_of_not_lt (fun h=>hk (hB05 k h)))
       obtain ⟨a',cap',rfl,_,hsl'⟩:=SlAt_ownS (F:=NewS w W) hown (fun k h1 h2 h3=>⟨⟨h1,h2⟩,h3⟩)
       have hkl:l1=p.threads:=by rw [hI];simp
       have hlt:∀ k,B5 k∧w.heap.size≤k∧Soft w5 k→NewS w W k:=fun k hk=>⟨⟨hk.2.1,Nat.lt_of_lt_of_le (hB5 k hk.1) hkW.size⟩,hk.2.2.keep hkW hk.1⟩
       have hkq:Keep B3 w3 W:=hk35.trans (hkW.mono hB35)
       refine ⟨_,rfl,⟨_,rfl,a2,cap22,xs,a3,cap33,ys,a',cap',xk,by rw [← hns,← hnm,hkl],?_,hxt,?_,hyt,?_,?_⟩,(hk05.trans (hkW.mono hB05)).below⟩
       · rw [← hns];exact (hsa.keep (hkq.mono fun k h=>h.1)).mono fun k h=>hlt k ⟨hB35 k h.1,h.2.1,h.2.2.keep hk35 h.1⟩
       · rw [← hnm];exact (hsb.keep (hkq.mono fun k h=>h.1)).mono fun k h=>hlt k ⟨hB35 k h.1,h.2.1,h.2.2.keep hk35 h.1⟩
       · rw [hkl] at hsl';exact hsl'
       · rw [hkl] at hxk;exact hxk.imp fun _ _ h=>h.keep (hkW.mono fun k hk=>hk.1) hlt
      rcases hrow.2 with ⟨hX,hob,h0⟩ | ⟨hX,hob⟩
      ·
       subst hX hob
       refine rk ?_
       refine good_end (av := .agg [vL a2 ns cap22,vL a3 nm cap33,vL none 0 0]) (by kernel_rfl) (fun γ W v _ hv hH hkW=>?_)
       obtain ⟨x,rfl,hx⟩:=VR_agg3 hv
       exact hfin γ W _ x _ _ rfl hx hH (by kernel_rfl) hkW
      ·
       subst hX hob
       refine rk ?_
       refine good_end (av := .agg [vL a2 ns cap22,vL a3 nm cap33,.slg (gz+4) 0 l1.length 3]) (by kernel_rfl) (fun γ W v _ hv hH hkW=>?_)
       obtain ⟨x,rfl,hx⟩:=VR_agg3 hv
       exact hfin γ W _ x _ _ rfl hx hH (by kernel_rfl) hkW
    | cons s l3=>
      have hin:l1.length<nt:=by rw [hn2,List.length_cons];omega
      have hks2:=hzt1
      rw [hI] at hks2
      obtain ⟨c,hc,hcell⟩:=hks2.at_ (fun _ _ h=>h.len)
      simp only [thws] at hw1
      obtain ⟨sa,scap,sxs,sb,scap2,sys,rfl,shs,sht,shb,shbt⟩:=hc
      simp only [thw] at hw1
      refine kx (l1.length:Int) (nt:Int) (by omega) ?_
      refine rk ?_
      refine gI 24 58 cap3 l1.length hzs1 hin ?_
      refine rk ?_
      refine gD 58 3 [nT s.name,.slice sa s.locals.length scap,.slice sb s.body.length scap2] l1.length 0 hzs1 rfl hcell ?_
      refine rs [] 3 0 ?_
      refine good_lock2 [gz+2,gz+5] (gz+6) (by kernel_rfl) ?_
      intro γ2 B6 w6 hle2 hγ2 hB56 hB6 hk56 hLk2
      have hL2:∀ b,hasNat b [gz+2,gz+5]=true→∃ p,γ2 b=some p∧B6 p.1:=fun b hb=>let ⟨p,h1,h2,_⟩:=hLk2 b hb;⟨p,h1,h2⟩
      have shs6:=(shs.keep hk56).mono hB56
      have shb6:=(shb.keep hk56).mono hB56
      have shbt6:=shbt.keep hk56 hB56
      refine good_plan sy_mixed (.take 0 (.take 1 (.take 2 (.take 3 (.take 5 (.take 6 (.take 8 (.take 9 (.run 4 (.run 7 (.run 10 (.take 11 (.run 12 (.run 13 (.take 14 .done))))))))))))))) 15 (by kernel_rfl) ?_
      refine p_takes [gz+2,gz+5] 1 (Bs:=B6) (ws:=w6) (by kernel_rfl) (fun _ h=>h) hL2 ?_
      refine p_load [gz+2,gz+5] X (by kernel_rfl) (by rcases hrow.2 with ⟨h,_⟩ | ⟨h,_⟩ <;> rw [h] <;> kernel_rfl) (Bs:=B6) (ws:=w6) (by kernel_rfl) (fun _ h=>h) hL2 ?_
      refine p_takes [gz+2,gz+5] 6 (Bs:=B6) (ws:=w6) (by kernel_rfl) (fun _ h=>h) hL2 ?_
      refine pR (Keep B6 w6) (fun _ h=>h) ?_
      refine rk ?_
      refine pR (Keep B6 w6) (fun _ h=>h) ?_
      refine good_fix 30 (gz+6) 3 (by kernel_rfl) (by kernel_rfl) (by kernel_rfl) (fun k=>?_)
      refine good_appM (.slice (some ⟨k,0,none⟩) 0 0) (.slice sa s.locals.length scap) [22,22] (by kernel_rfl) (fun W hk=>app_noneT (z := .agg #[.string { data:=#[] },.int .u8 0,.int .u64 0]) (e:=67) (sz:=3) (bytes:=32) (by kernel_rfl) (by kernel_rfl) (by kernel_rfl) (by kernel_rfl) shs6 (by omega) (by unfold maxLen;omega) W hk) ?_
      rintro wC r w7 B7 hkC ⟨a7,cap7,rfl,hsl7⟩ hbl7 hk67 hB67 hBn7 hB7
      have hS7:∀ W,Keep B7 w7 W→Keep B6 w6 W:=fun W hk=>hk67.trans (hk.mono hB67)
      refine rk ?_
      refine pR (Keep B6 w6) hS7 ?_
      refine gM [.slice sb s.body.length scap2] (fun W hk=>copyStmtsQ_any _ s.body _ _ _ _ W rfl (Nat.lt_succ_self _) (by omega) ((shb6.keep (hS7 W hk)).mono fun k h=>Nat.lt_of_lt_of_le (hB6 k h) (hS7 W hk).size) (StsAt_ls.1 (shbt6.keep (hS7 W hk) fun k h=>Nat.lt_of_lt_of_le (hB6 k h) (hS7 W hk).size))) ?_
      rintro wD r w8 B8 hkD ⟨a8,cap8,xs8,rfl,hsl8,hst8⟩ hbl8 hk78 hB78 hBn8 hB8
      have hS8:∀ W,Keep B8 w8 W→Keep B6 w6 W:=fun W hk=>hS7 W (hk78.trans (hk.mono hB78))
      refine rk ?_
      refine p_takes [gz+2,gz+5] 1 (Bs:=B6) (ws:=w6) (by kernel_rfl) hS8 hL2 ?_
      refine pR (Keep B6 w6) hS8 ?_
      refine rk ?_
      refine pR (Keep B6 w6) hS8 ?_
      refine good_plain (gz+2) 2 (by kernel_rfl) (fun xold=>?_)
      refine good_app (t:=24) (e:=58) (.slg (gz+7) 0 1 3) 3 64 (gz+4) l1.length 0 xk X ob [nT s.name,.slice a7 s.locals.length cap7,.slice a8 s.body.length cap8] [27] (by kernel_rfl) (by kernel_rfl) (by kernel_rfl) (by kernel_rfl) hrow (by kernel_rfl) (by kernel_rfl) (by kernel_rfl)
       (by unfold maxLen;omega) (by omega) (by rw [hγ2 _ (by kernel_rfl)];exact hγ1 _ (by omega)) (by kernel_rfl) (by kernel_rfl) (by kernel_rfl) (by kernel_rfl) (by kernel_rfl) (fun X' ob' hrow'=>?_)
      rcases hrow'.2 with ⟨_,_,h0⟩ | ⟨rfl,rfl⟩
      · omega
      refine rk ?_
      refine p_takes [gz+2,gz+5] 1 (Bs:=B6) (ws:=w6) (by kernel_rfl) hS8 hL2 ?_
      refine p_done (by kernel_rfl) ?_ (Keep B6 w6) (by kernel_rfl) hS8
      refine good_unlock [gz+2,gz+5] (by kernel_rfl) (fun b hb=>let ⟨p,h1,_⟩:=hLk2 b hb;⟨p,h1⟩) ?_
      intro B9 hB98 hB89
      refine rk ?_
      refine gJ 4 l1 s (by omega) ?_
      have hlk:∀ b p,hasNat b [gz+2,gz+5]=true→γ2 b=some p→B6 p.1∧¬ B5 p.1:=fun b p hb hp=>by
       obtain ⟨q,h1,h2,h3⟩:=hLk2 b hb
       rw [hp] at h1
       injection h1 with h1
       subst h1
       exact ⟨h2,h3⟩
      have hB68:∀ k,B6 k→B8 k:=fun k h=>hB78 k (hB67 k h)
      have hB59:∀ k,B5 k→B9 k:=fun k hk=>hB89 k (hB68 k (hB56 k hk)) (fun b p hb hp e=>(hlk b p hb hp).2 (e ▸ hk))
      have hk68:Keep B6 w6 w8:=hk67.trans (hk78.mono hB67)
      have hk58:Keep B5 w5 w8:=hk56.trans (hk68.mono hB56)
      have hz1:=hk05.size
      have hz2:=hk56.size
      have hz3:=hkC.size
      have hz4:=hkD.size
      have hz5:=hk67.size
      have hz6:=hk78.size
      have hnot:∀ k,w6.heap.size≤k→∀ b p,hasNat b [gz+2,gz+5]=true→γ2 b=some p→p.1≠k:=fun k hk b p hb hp e=>by
       have h1:=hB6 p.1 (hlk b p hb hp).1
       omega
      have hst:ThAt (fun k=>B9 k∧w.heap.size≤k∧Soft w8 k) w8 s [nT s.name,.slice a7 s.locals.length cap7,.slice a8 s.body.length cap8]:=by
       refine ⟨a7,cap7,sxs,a8,cap8,xs8,rfl,?_,sht,?_,?_⟩
       · exact (hsl7.keep (hk78.mono fun k h=>hBn7 k h.1.1 h.1.2)).mono fun k h=>⟨hB89 k (hB78 k (hBn7 k h.1.1 h.1.2)) (hnot k (by have:=h.1.1;omega)),(by have:=h.1.1;omega),h.2.keep hk78 (hBn7 k h.1.1 h.1.2)⟩
       · exact hsl8.mono fun k h=>⟨hB89 k (hBn8 k h.1.1 h.1.2) (hnot k (by have:=h.1.1;omega)),(by have:=h.1.1;omega),h.2⟩
       · exact hst8.keep (Keep.refl _ _) fun k h=>⟨hB89 k (hBn8 k h.1.1 h.1.2) (hnot k (by have:=h.1.1;omega)),(by have:=h.1.1;omega),h.2⟩
      have hI9:LInvQ ThAt 58 3 w.heap.size B3 w3 p.threads (gz+4) ⟨l1++[s],l3,xk++[nT s.name,.slice a7 s.locals.length cap7,.slice a8 s.body.length cap8],.slg (gz+4) 0 (l1.length+(0+1)) 3,some (.row 58 (xk++[nT s.name,.slice a7 s.locals.length cap7,.slice a8 s.body.length cap8]))⟩ B9 w8:=by
       refine ⟨by show p.threads=(l1++[_])++l3;rw [hI];simp,hk35.trans (hk58.mono hB35),fun k hk=>hB59 k (hB35 k hk),fun k hk=>hB8 k (hB98 k hk),?_,?_⟩
       · exact LsAt.snoc (hxk.imp fun _ _ h=>h.keep (hk58.mono fun k hk=>hk.1) (fun k hk=>⟨hB59 k hk.1,hk.2.1,hk.2.2.keep hk58 hk.1⟩)) hst
       · show RowAt _ 3 (gz+4) (l1++[_]).length _ _ _
         rw [List.length_append]
         exact hrow'
      have hγ9:∀ b,gz+6≤b→γ2 b=none:=fun b hb=>by
       rw [hγ2 b (by cases hq:hasNat b [gz+2,gz+5] with
        | false=>rfl
        | true=>exfalso;simp only [hasNat_iff,List.mem_cons,List.not_mem_nil,or_false] at hq;omega)]
       exact hγ1 b (by omega)
      exact Good.up (gU _ [(1,.ptr gz 0),(2,.ptr (gz+1) 0),(3,.ptr (gz+2) 0),(4,vI ((l1++[s]).length:Int))] [(gz,some (.cells 26 false true true 3 (putL .leaf 0 [vL a ns cap,vL b nm cap2,vL d nt cap3]))),(gz+1,bK 26 3 [vL none 0 0,vL none 0 0,vL none 0 0]),(gz+2,bK 26 3 [vL a2 ns cap22,vL a3 nm cap33,.slg (gz+4) 0 (l1.length+(0+1)) 3]),(gz+4,some (.row 58 (xk++[nT s.name,.slice a7 s.locals.length cap7,.slice a8 s.body.length cap8])))] (gz+5) (fun b hb=>hγ1 b (by omega)) (ih _ B9 w8 hI9 lS1)) hle2
  | clear v3
    refine p_done (by kernel_rfl) ?_ (Keep B1 w1) (by kernel_rfl) hS3
    refine rk ?_
    refine good_toLp ?_
    have hk03:Keep (·<w.heap.size) w w3:=hk01.trans (((hk12.trans (hk23.mono hB12))).mono hB01)
    have hB13:∀ k,B1 k→B3 k:=fun k h=>hB23 k (hB12 k h)
    have hszA:=hkA.size
    have hszB:=hkB.size
    have hsz01:=hk01.size
    have hsz12:=hk12.size
    have hsz23:=hk23.size
    have hsa:SlAt (fun k=>B3 k∧w.heap.size≤k∧Soft w3 k) w3 a2 ns 3 xs:=((hsl2.keep (hk23.mono fun k h=>hBn2 k h.1.1 h.1.2)).mono fun k h=>⟨hB23 k (hBn2 k h.1.1 h.1.2),(by have:=h.1.1;omega),h.2.keep hk23 (hBn2 k h.1.1 h.1.2)⟩)
    have hsb:SlAt (fun k=>B3 k∧w.heap.size≤k∧Soft w3 k) w3 a3 nm 1 ys:=hsl3.mono fun k h=>⟨hBn3 k h.1.1 h.1.2,(by have:=h.1.1;omega),h.2⟩
    refine good_loopB (fun i:CI Th=>i.l2.length) (LInvQ ThAt 58 3 w.heap.size B3 w3 p.threads (gz+4)) (fun i=>⟨mkT [(1,.ptr gz 0),(2,.ptr (gz+1) 0),(3,.ptr (gz+3) 0),(4,vI (i.l1.length:Int))],mkH [(gz,some (.cells 26 false true true 3 (putL .leaf 0 [vL a ns cap,vL b nm cap2,vL d nt cap3]))),(gz+1,bK 26 3 [vL none 0 0,vL none 0 0,vL none 0 0]),(gz+3,bK 26 3 [vL a2 ns cap22,vL a3 nm cap33,i.X]),(gz+4,i.ob)],gz+5,[]⟩)
     ⟨[],p.threads,[],vL none 0 0,none⟩ ⟨rfl,Keep.refl _ _,fun k h=>h,hB3,rfl,RowAt.nil _ _ _⟩ (by kernel_rfl)
     (fun h=>gU _ [(1,.ptr gz 0),(2,.ptr (gz+1) 0),(3,.ptr (gz+3) 0),(4,vI (([]:List Th).length:Int))] [(gz,some (.cells 26 false true true 3 (putL .leaf 0 [vL a ns cap,vL b nm cap2,vL d nt cap3]))),(gz+1,bK 26 3 [vL none 0 0,vL none 0 0,vL none 0 0]),(gz+3,bK 26 3 [vL a2 ns cap22,vL a3 nm cap33,vL none 0 0]),(gz+4,none)] (gz+5) (fun b hb=>hγ1 b (by omega)) h) ?_
    rintro ⟨l1,l2,xk,X,ob⟩ B5 w5 ⟨hI,hk35,hB35,hB5,hxk,hrow⟩ ih
    simp only at hI hxk hrow
    have hn2:nt=l1.length+l2.length:=by rw [hnt,hI,List.length_append]
    have hw1:thws p.threads=thws l1+thws l2:=by rw [hI,thws_app]
    have hB05:∀ k,k<w.heap.size→B5 k:=fun k h=>hB35 k (hB13 k (hB01 k h))
    have hk05:Keep (·<w.heap.size) w w5:=hk03.trans (hk35.mono fun k h=>hB13 k (hB01 k h))
    have hzs1:SlAt B5 w5 d nt 3 zs:=(hzs.keep hk05).mono hB05
    have hzt1:=hzt.imp (fun _ _ h=>ThAt.keep hk05 hB05 h)
    have hXlt:avLt (gz+5) X=true:=hrow.lt (by omega)
    refine rk ?_
    cases l2 with
    | nil=>
      have hn3:nt=l1.length:=by rw [hn2];simp
      refine ky (l1.length:Int) (nt:Int) (by omega) ?_
      have hfin:∀ (γ:Gm) (W:World) (v x:Value) (h:Hp) (cc:Nat),v = .agg #[.slice a2 ns cap22,.slice a3 nm cap33,x]→VR γ X x→HR B5 Tryz.prog.globals.size γ h cc W→h.get (gz+4)=ob→Keep B5 w5 W→(∃ v',Ending.returned v = .returned v'∧PgPrQ p w v' W∧Below w.heap.size w W):=by
       intro γ W v x h cc hv hx hH hb hkW
       subst hv
       obtain ⟨hown,_⟩:=row_own (base:=w.heap.size) hrow hb hH hx (fun k hk=>Nat.le_of_not_lt (fun h=>hk (hB05 k h)))
       obtain ⟨a',cap',rfl,_,hsl'⟩:=SlAt_ownS (F:=NewS w W) hown (fun k h1 h2 h3=>⟨⟨h1,h2⟩,h3⟩)
       have hkl:l1=p.threads:=by rw [hI];simp
       have hlt:∀ k,B5 k∧w.heap.size≤k∧Soft w5 k→NewS w W k:=fun k hk=>⟨⟨hk.2.1,Nat.lt_of_lt_of_le (hB5 k hk.1) hkW.size⟩,hk.2.2.keep hkW hk.1⟩
       have hkq:Keep B3 w3 W:=hk35.trans (hkW.mono hB35)
       refine ⟨_,rfl,⟨_,rfl,a2,cap22,xs,a3,cap33,ys,a',cap',xk,by rw [← hns,← hnm,hkl],?_,hxt,?_,hyt,?_,?_⟩,(hk05.trans (hkW.mono hB05)).below⟩
       · rw [← hns];exact (hsa.keep (hkq.mono fun k h=>h.1)).mono fun k h=>hlt k ⟨hB35 k h.1,h.2.1,h.2.2.keep hk35 h.1⟩
       · rw [← hnm];exact (hsb.keep (hkq.mono fun k h=>h.1)).mono fun k h=>hlt k ⟨hB35 k h.1,h.2.1,h.2.2.keep hk35 h.1⟩
       · rw [hkl] at hsl';exact hsl'
       · rw [hkl] at hxk;exact hxk.imp fun _ _ h=>h.keep (hkW.mono fun k hk=>hk.1) hlt
      rcases hrow.2 with ⟨hX,hob,h0⟩ | ⟨hX,hob⟩
      ·
       subst hX hob
       refine rk ?_
       refine good_end (av := .agg [vL a2 ns cap22,vL a3 nm cap33,vL none 0 0]) (by kernel_rfl) (fun γ W v _ hv hH hkW=>?_)
       obtain ⟨x,rfl,hx⟩:=VR_agg3 hv
       exact hfin γ W _ x _ _ rfl hx hH (by kernel_rfl) hkW
      ·
       subst hX hob
       refine rk ?_
       refine good_end (av := .agg [vL a2 ns cap22,vL a3 nm cap33,.slg (gz+4) 0 l1.length 3]) (by kernel_rfl) (fun γ W v _ hv hH hkW=>?_)
       obtain ⟨x,rfl,hx⟩:=VR_agg3 hv
       exact hfin γ W _ x _ _ rfl hx hH (by kernel_rfl) hkW
    | cons s l3=>
      have hin:l1.length<nt:=by rw [hn2,List.length_cons];omega
      have hks2:=hzt1
      rw [hI] at hks2
      obtain ⟨c,hc,hcell⟩:=hks2.at_ (fun _ _ h=>h.len)
      simp only [thws] at hw1
      obtain ⟨sa,scap,sxs,sb,scap2,sys,rfl,shs,sht,shb,shbt⟩:=hc
      simp only [thw] at hw1
      refine kx (l1.length:Int) (nt:Int) (by omega) ?_
      refine rk ?_
      refine gI 24 58 cap3 l1.length hzs1 hin ?_
      refine rk ?_
      refine gD 58 3 [nT s.name,.slice sa s.locals.length scap,.slice sb s.body.length scap2] l1.length 0 hzs1 rfl hcell ?_
      refine rs [] 3 0 ?_
      refine good_lock2 [gz+3,gz+5] (gz+6) (by kernel_rfl) ?_
      intro γ2 B6 w6 hle2 hγ2 hB56 hB6 hk56 hLk2
      have hL2:∀ b,hasNat b [gz+3,gz+5]=true→∃ p,γ2 b=some p∧B6 p.1:=fun b hb=>let ⟨p,h1,h2,_⟩:=hLk2 b hb;⟨p,h1,h2⟩
      have shs6:=(shs.keep hk56).mono hB56
      have shb6:=(shb.keep hk56).mono hB56
      have shbt6:=shbt.keep hk56 hB56
      refine good_plan sy_mixed (.take 0 (.take 1 (.take 2 (.take 3 (.take 5 (.take 6 (.take 8 (.take 9 (.run 4 (.run 7 (.run 10 (.take 11 (.run 12 (.run 13 (.take 14 .done))))))))))))))) 15 (by kernel_rfl) ?_
      refine p_takes [gz+3,gz+5] 1 (Bs:=B6) (ws:=w6) (by kernel_rfl) (fun _ h=>h) hL2 ?_
      refine p_load [gz+3,gz+5] X (by kernel_rfl) (by rcases hrow.2 with ⟨h,_⟩ | ⟨h,_⟩ <;> rw [h] <;> kernel_rfl) (Bs:=B6) (ws:=w6) (by kernel_rfl) (fun _ h=>h) hL2 ?_
      refine p_takes [gz+3,gz+5] 6 (Bs:=B6) (ws:=w6) (by kernel_rfl) (fun _ h=>h) hL2 ?_
      refine pR (Keep B6 w6) (fun _ h=>h) ?_
      refine rk ?_
      refine pR (Keep B6 w6) (fun _ h=>h) ?_
      refine good_fix 30 (gz+6) 3 (by kernel_rfl) (by kernel_rfl) (by kernel_rfl) (fun k=>?_)
      refine good_appM (.slice (some ⟨k,0,none⟩) 0 0) (.slice sa s.locals.length scap) [22,22] (by kernel_rfl) (fun W hk=>app_noneT (z := .agg #[.string { data:=#[] },.int .u8 0,.int .u64 0]) (e:=67) (sz:=3) (bytes:=32) (by kernel_rfl) (by kernel_rfl) (by kernel_rfl) (by kernel_rfl) shs6 (by omega) (by unfold maxLen;omega) W hk) ?_
      rintro wC r w7 B7 hkC ⟨a7,cap7,rfl,hsl7⟩ hbl7 hk67 hB67 hBn7 hB7
      have hS7:∀ W,Keep B7 w7 W→Keep B6 w6 W:=fun W hk=>hk67.trans (hk.mono hB67)
      refine rk ?_
      refine pR (Keep B6 w6) hS7 ?_
      refine gM [.slice sb s.body.length scap2] (fun W hk=>copyStmtsQ_any _ s.body _ _ _ _ W rfl (Nat.lt_succ_self _) (by omega) ((shb6.keep (hS7 W hk)).mono fun k h=>Nat.lt_of_lt_of_le (hB6 k h) (hS7 W hk).size) (StsAt_ls.1 (shbt6.keep (hS7 W hk) fun k h=>Nat.lt_of_lt_of_le (hB6 k h) (hS7 W hk).size))) ?_
      rintro wD r w8 B8 hkD ⟨a8,cap8,xs8,rfl,hsl8,hst8⟩ hbl8 hk78 hB78 hBn8 hB8
      have hS8:∀ W,Keep B8 w8 W→Keep B6 w6 W:=fun W hk=>hS7 W (hk78.trans (hk.mono hB78))
      refine rk ?_
      refine p_takes [gz+3,gz+5] 1 (Bs:=B6) (ws:=w6) (by kernel_rfl) hS8 hL2 ?_
      refine pR (Keep B6 w6) hS8 ?_
      refine rk ?_
      refine pR (Keep B6 w6) hS8 ?_
      refine good_plain (gz+3) 2 (by kernel_rfl) (fun xold=>?_)
      refine good_app (t:=24) (e:=58) (.slg (gz+7) 0 1 3) 3 64 (gz+4) l1.length 0 xk X ob [nT s.name,.slice a7 s.locals.length cap7,.slice a8 s.body.length cap8] [27] (by kernel_rfl) (by kernel_rfl) (by kernel_rfl) (by kernel_rfl) hrow (by kernel_rfl) (by kernel_rfl) (by kernel_rfl)
       (by unfold maxLen;omega) (by omega) (by rw [hγ2 _ (by kernel_rfl)];exact hγ1 _ (by omega)) (by kernel_rfl) (by kernel_rfl) (by kernel_rfl) (by kernel_rfl) (by kernel_rfl) (fun X' ob' hrow'=>?_)
      rcases hrow'.2 with ⟨_,_,h0⟩ | ⟨rfl,rfl⟩
      · omega
      refine rk ?_
      refine p_takes [gz+3,gz+5] 1 (Bs:=B6) (ws:=w6) (by kernel_rfl) hS8 hL2 ?_
      refine p_done (by kernel_rfl) ?_ (Keep B6 w6) (by kernel_rfl) hS8
      refine good_unlock [gz+3,gz+5] (by kernel_rfl) (fun b hb=>let ⟨p,h1,_⟩:=hLk2 b hb;⟨p,h1⟩) ?_
      intro B9 hB98 hB89
      refine rk ?_
      refine gJ 4 l1 s (by omega) ?_
      have hlk:∀ b p,hasNat b [gz+3,gz+5]=true→γ2 b=some p→B6 p.1∧¬ B5 p.1:=fun b p hb hp=>by
       obtain ⟨q,h1,h2,h3⟩:=hLk2 b hb
       rw [hp] at h1
       injection h1 with h1
       subst h1
       exact ⟨h2,h3⟩
      have hB68:∀ k,B6 k→B8 k:=fun k h=>hB78 k (hB67 k h)
      have hB59:∀ k,B5 k→B9 k:=fun k hk=>hB89 k (hB68 k (hB56 k hk)) (fun b p hb hp e=>(hlk b p hb hp).2 (e ▸ hk))
      have hk68:Keep B6 w6 w8:=hk67.trans (hk78.mono hB67)
      have hk58:Keep B5 w5 w8:=hk56.trans (hk68.mono hB56)
      have hz1:=hk05.size
      have hz2:=hk56.size
      have hz3:=hkC.size
      have hz4:=hkD.size
      have hz5:=hk67.size
      have hz6:=hk78.size
      have hnot:∀ k,w6.heap.size≤k→∀ b p,hasNat b [gz+3,gz+5]=true→γ2 b=some p→p.1≠k:=fun k hk b p hb hp e=>by
       have h1:=hB6 p.1 (hlk b p hb hp).1
       omega
      have hst:ThAt (fun k=>B9 k∧w.heap.size≤k∧Soft w8 k) w8 s [nT s.name,.slice a7 s.locals.length cap7,.slice a8 s.body.length cap8]:=by
       refine ⟨a7,cap7,sxs,a8,cap8,xs8,rfl,?_,sht,?_,?_⟩
       · exact (hsl7.keep (hk78.mono fun k h=>hBn7 k h.1.1 h.1.2)).mono fun k h=>⟨hB89 k (hB78 k (hBn7 k h.1.1 h.1.2)) (hnot k (by have:=h.1.1;omega)),(by have:=h.1.1;omega),h.2.keep hk78 (hBn7 k h.1.1 h.1.2)⟩
       · exact hsl8.mono fun k h=>⟨hB89 k (hBn8 k h.1.1 h.1.2) (hnot k (by have:=h.1.1;omega)),(by have:=h.1.1;omega),h.2⟩
       · exact hst8.keep (Keep.refl _ _) fun k h=>⟨hB89 k (hBn8 k h.1.1 h.1.2) (hnot k (by have:=h.1.1;omega)),(by have:=h.1.1;omega),h.2⟩
      have hI9:LInvQ ThAt 58 3 w.heap.size B3 w3 p.threads (gz+4) ⟨l1++[s],l3,xk++[nT s.name,.slice a7 s.locals.length cap7,.slice a8 s.body.length cap8],.slg (gz+4) 0 (l1.length+(0+1)) 3,some (.row 58 (xk++[nT s.name,.slice a7 s.locals.length cap7,.slice a8 s.body.length cap8]))⟩ B9 w8:=by
       refine ⟨by show p.threads=(l1++[_])++l3;rw [hI];simp,hk35.trans (hk58.mono hB35),fun k hk=>hB59 k (hB35 k hk),fun k hk=>hB8 k (hB98 k hk),?_,?_⟩
       · exact LsAt.snoc (hxk.imp fun _ _ h=>h.keep (hk58.mono fun k hk=>hk.1) (fun k hk=>⟨hB59 k hk.1,hk.2.1,hk.2.2.keep hk58 hk.1⟩)) hst
       · show RowAt _ 3 (gz+4) (l1++[_]).length _ _ _
         rw [List.length_append]
         exact hrow'
      have hγ9:∀ b,gz+6≤b→γ2 b=none:=fun b hb=>by
       rw [hγ2 b (by cases hq:hasNat b [gz+3,gz+5] with
        | false=>rfl
        | true=>exfalso;simp only [hasNat_iff,List.mem_cons,List.not_mem_nil,or_false] at hq;omega)]
       exact hγ1 b (by omega)
      exact Good.up (gU _ [(1,.ptr gz 0),(2,.ptr (gz+1) 0),(3,.ptr (gz+3) 0),(4,vI ((l1++[s]).length:Int))] [(gz,some (.cells 26 false true true 3 (putL .leaf 0 [vL a ns cap,vL b nm cap2,vL d nt cap3]))),(gz+1,bK 26 3 [vL none 0 0,vL none 0 0,vL none 0 0]),(gz+3,bK 26 3 [vL a2 ns cap22,vL a3 nm cap33,.slg (gz+4) 0 (l1.length+(0+1)) 3]),(gz+4,some (.row 58 (xk++[nT s.name,.slice a7 s.locals.length cap7,.slice a8 s.body.length cap8])))] (gz+5) (fun b hb=>hγ1 b (by omega)) (ih _ B9 w8 hI9 lS1)) hle2
end
section
structure RJ (φ:List UInt8→List UInt8) (F B0:Nat→Prop) (w:World) (B:Nat→Prop) (w1:World):Prop where
 keep:Sy.Keep (fun k=>B0 k∧¬ F k) w w1
 turn:TR φ F w w1
 old:∀ k,B0 k→B k
 lt:∀ k,B k→k<w1.heap.size
theorem RJ.refl {φ:List UInt8→List UInt8} {F B0:Nat→Prop} {w:World} (h:∀ k,B0 k→k<w.heap.size):RJ φ F B0 w B0 w:=⟨Sy.Keep.refl _ _,fun k c e _ h=>⟨c,h,rfl,fun j v hv=>⟨v,hv,.refl v⟩⟩,fun k h=>h,h⟩
theorem RJ.step {φ:List UInt8→List UInt8} (hi:∀ s,φ (φ s)=φ s) {F B0 B B':Nat→Prop} {w w1 W w2:World} (h:RJ φ F B0 w B w1) (hFw:∀ k,F k→B0 k) (hk:Sy.Keep B w1 W) (ht:TR φ F W w2) (hk2:Sy.Keep (fun k=>B k∧¬ F k) w1 w2) (hB:∀ k,B k→B' k) (hB2:∀ k,B' k→k<w2.heap.size):RJ φ F B0 w B' w2:=
 ⟨h.keep.trans (hk2.mono fun k hk=>⟨h.old k hk.1,hk.2⟩),(h.turn.trans hi (TR.of_keep hk fun k hk=>h.old k (hFw k hk))).trans hi ht,fun k hk=>hB k (h.old k hk),hB2⟩
def RnPr (φ:List UInt8→List UInt8) (p:Pg) (w:World) (v:Value) (w':World):Prop:=∃ ds:List Value,v = .agg ds.toArray∧PgAt (NewIn w w') w' (rnP φ p) ds
theorem NTh.len {N1 N2 N3:List UInt8→List UInt8→Prop} {F:Nat→Prop} {w:World} {t:Th} {cs:List Value} (h:NTh N1 N2 N3 F w t cs):cs.length=3:=by
 obtain ⟨_,_,_,_,_,_,_,_,rfl,_⟩:=h
 rfl
theorem NVr.len {N:List UInt8→List UInt8→Prop} {v:Vr} {cs:List Value} (h:NVr N v cs):cs.length=3:=by
 obtain ⟨_,_,rfl⟩:=h
 rfl
theorem NTx.len {N:List UInt8→List UInt8→Prop} {v:List UInt8} {cs:List Value} (h:NTx N v cs):cs.length=1:=by
 obtain ⟨_,_,rfl⟩:=h
 rfl
def NThx (N1:List UInt8→List UInt8→Prop) (A2:Vr→List Value→Prop) (N3:List UInt8→List UInt8→Prop) (F:Nat→Prop) (w:World) (a:Option Addr) (cap:Nat) (b:Option Addr) (cap2:Nat) (t:Th) (cs:List Value):Prop:=
 ∃ nm xs ys,N1 t.name nm∧cs=[.string (str nm),.slice a t.locals.length cap,.slice b t.body.length cap2]∧Sy.SlAt F w a t.locals.length 3 xs∧LsAt A2 t.locals xs∧Sy.SlAt F w b t.body.length 9 ys∧NSts N3 F w t.body ys
theorem NThx.len {N1:List UInt8→List UInt8→Prop} {A2:Vr→List Value→Prop} {N3:List UInt8→List UInt8→Prop} {F:Nat→Prop} {w:World} {a:Option Addr} {cap:Nat} {b:Option Addr} {cap2:Nat} {t:Th} {cs:List Value} (h:NThx N1 A2 N3 F w a cap b cap2 t cs):cs.length=3:=by
 obtain ⟨_,_,_,_,rfl,_⟩:=h
 rfl
section
variable {φ:List UInt8→List UInt8}
theorem NThx_turn {N1 N3:List UInt8→List UInt8→Prop} {A2 A2':Vr→List Value→Prop} (h1:NCl φ N1) (h2:∀ e c c',A2 e c→RVs φ c c'→A2' e c') (h3:NCl φ N3) {F:Nat→Prop} {w w':World} (hF:∀ k,F k→Soft w k) (hk:TR φ F w w') {a:Option Addr} {cap:Nat} {b:Option Addr} {cap2:Nat} {t:Th} {cs cs':List Value} (h:NThx N1 A2 N3 F w a cap b cap2 t cs) (hv:RVs φ cs cs'):NThx N1 A2' N3 F w' a cap b cap2 t cs':=by
 obtain ⟨nm,xs,ys,hn0,rfl,hl,hls,hb,hbs⟩:=h
 obtain ⟨v1,r1,rfl,k1,hv⟩:=hv.cons
 obtain ⟨v2,r2,rfl,k2,hv⟩:=hv.cons
 obtain ⟨v3,r3,rfl,k3,hv⟩:=hv.cons
 obtain rfl:=hv.nil
 obtain ⟨nm',rfl,hn⟩:=N_turn h1 hn0 k1
 obtain rfl:=k2.sl
 obtain rfl:=k3.sl
 obtain ⟨xs',g1,g2⟩:=SlAt_turnR hF hl hk
 obtain ⟨ys',g3,g4⟩:=SlAt_turnR hF hb hk
 exact ⟨nm',xs',ys',hn,rfl,g1,LsAt_rv h2 hls g2,g3,NSts_turn h3 hF hk t.body ys ys' hbs g4⟩
theorem adv1 {α:Type} {P P':α→List Value→Prop} {F:Nat→Prop} {w w':World} {a:Option Addr} {n sz:Nat} {l:List α} {xs:List Value} (hF:∀ k,F k→Soft w k) (hk:TR φ F w w') (t1:∀ e c c',P e c→RVs φ c c'→P' e c') (hsl:Sy.SlAt F w a n sz xs) (h:LsAt P l xs):
  ∃ ys,Sy.SlAt F w' a n sz ys∧LsAt P' l ys:=by
 obtain ⟨ys,h1,h2⟩:=SlAt_turnR hF hsl hk
 exact ⟨ys,h1,LsAt_rv t1 h h2⟩
end
theorem cells3_rv {φ:List UInt8→List UInt8} (hi:∀ s,φ (φ s)=φ s) {s:List UInt8} {a b:Option Addr} {n cap m cap2:Nat} {cs:List Value} (h:RVs φ [.string (str (φ s)),.slice a n cap,.slice b m cap2] cs):cs=[.string (str (φ s)),.slice a n cap,.slice b m cap2]:=by
 obtain ⟨v4,r4,rfl,k4,h⟩:=h.cons
 obtain ⟨v5,r5,rfl,k5,h⟩:=h.cons
 obtain ⟨v6,r6,rfl,k6,h⟩:=h.cons
 obtain rfl:=h.nil
 obtain rfl:=k5.sl
 obtain rfl:=k6.sl
 rcases k4.str with rfl | rfl
 · rfl
 · rw [hi]
open Go.Sy in
set_option maxRecDepth 100000 in
theorem drenamed_any (fr nu:List UInt8) (p:Pg) {pa pb pd:Option Addr} {vn qm qt qc qd qe:Nat} (w:World) (hbd:pwt p≤1000000000000) (hp:PgAt (·<w.heap.size) w p [.slice pa vn qc,.slice pb qm qd,.slice pd qt qe]):
  Calls Tryz.prog 45 #[.agg #[.slice pa vn qc,.slice pb qm qd,.slice pd qt qe],nT fr,nT nu] w fun r w'=>∃ v,r = .returned v∧RnPr (phi fr nu) p w v w'∧Below w.heap.size w w':=by
 refine eN [.agg #[.slice pa vn qc,.slice pb qm qd,.slice pd qt qe],nT fr,nT nu] Tryz.func45 (fun γ0 hγ0=>?_)
 refine rk ?_
 refine good_callM (sy_cx _ _) [.agg #[.slice pa vn qc,.slice pb qm qd,.slice pd qt qe]] (by kernel_rfl) (by kernel_rfl) (by kernel_rfl) (Pr:=fun W r W'=>PgPrQ p W r W') (fun W hk=>copyProgramQ_any p [.slice pa vn qc,.slice pb qm qd,.slice pd qt qe] W hbd (hp.keep hk (kU hk))) ?_
 rintro V r0 w0 B0 hkV ⟨ds,rfl,hpg⟩ hbl hk0 hB00 hBn0 hB0
 obtain ⟨F,hFd⟩:∃ F,F=NewS V w0:=⟨_,rfl⟩
 rw [← hFd] at hpg
 have hF:∀ k,F k→Soft w0 k:=fun k h=>by rw [hFd] at h;exact h.2
 have hFB:∀ k,F k→B0 k:=fun k h=>by rw [hFd] at h;exact hBn0 k h.1.1 h.1.2
 have hFn:∀ k,F k→w.heap.size≤k:=fun k h=>by rw [hFd] at h;exact Nat.le_trans hkV.size h.1.1
 clear hFd hbl hBn0
 obtain ⟨a2,cap2x,xs,a3,cap3x,ys,a4,cap4x,zs,rfl,hxs,hxt,hys,hyt,hzs,hzt⟩:=hpg
 obtain ⟨ns2,hns2⟩:∃ n,n=p.shared.length:=⟨_,rfl⟩
 obtain ⟨nm2,hnm2⟩:∃ n,n=p.mutexes.length:=⟨_,rfl⟩
 obtain ⟨nt2,hnt2⟩:∃ n,n=p.threads.length:=⟨_,rfl⟩
 rw [← hns2] at hxs ⊢
 rw [← hnm2] at hys ⊢
 rw [← hnt2] at hzs ⊢
 have hO0:RJ (phi fr nu) F B0 w0 B0 w0 := .refl hB0
 have hxt0:LsAt (NVr (Np (phi fr nu))) p.shared xs:=hxt.imp fun v c h=>⟨v.name,.inl rfl,h⟩
 have hyt0:LsAt (NTx (Np (phi fr nu))) p.mutexes ys:=hyt.imp fun v c h=>⟨v,.inl rfl,h⟩
 have hzt0:LsAt (NTh (Np (phi fr nu)) (Np (phi fr nu)) (Np (phi fr nu)) F w0) p.threads zs:=hzt.imp fun _ _ h=>NTh.of h
 clear hxt hyt hzt
 have hpw:ns2+nm2+thws p.threads≤1000000000000:=by rw [hns2,hnm2];exact hbd
 have hthl:=thws_len p.threads
 refine rk ?_
 refine good_toLp ?_
 refine good_loopB (fun i:List Vr×List Vr=>i.2.length) (fun i B w1=>p.shared=i.1++i.2∧RJ (phi fr nu) F B0 w0 B w1∧(∃ xa xb,SlAt F w1 a2 ns2 3 (xa++xb)∧LsAt (NVr (Nf (phi fr nu))) i.1 xa∧LsAt (NVr (Np (phi fr nu))) i.2 xb)∧(∃ ys,SlAt F w1 a3 nm2 1 ys∧LsAt (NTx (Np (phi fr nu))) p.mutexes ys)∧∃ zs,SlAt F w1 a4 nt2 3 zs∧LsAt (NTh (Np (phi fr nu)) (Np (phi fr nu)) (Np (phi fr nu)) F w1) p.threads zs) (fun i=>⟨mkT [(1,vT fr),(2,vT nu),(6,.ptr (gz+1) 0),(7,.ptr (gz+2) 0),(8,vI (i.1.length:Int))],mkH [(gz,bK 26 3 [vL pa vn qc,vL pb qm qd,vL pd qt qe]),(gz+1,bK 26 3 [vL none 0 0,vL none 0 0,vL none 0 0]),(gz+2,bK 26 3 [vL a2 ns2 cap2x,vL a3 nm2 cap3x,vL a4 nt2 cap4x])],gz+3,[]⟩)
  ([],p.shared) ⟨rfl,hO0,⟨[],xs,hxs,rfl,hxt0⟩,⟨ys,hys,hyt0⟩,zs,hzs,hzt0⟩ (by kernel_rfl)
  (fun h=>gU _ [(1,vT fr),(2,vT nu),(6,.ptr (gz+1) 0),(7,.ptr (gz+2) 0),(8,vI (([]:List Vr).length:Int))] [(gz,bK 26 3 [vL pa vn qc,vL pb qm qd,vL pd qt qe]),(gz+1,bK 26 3 [vL none 0 0,vL none 0 0,vL none 0 0]),(gz+2,bK 26 3 [vL a2 ns2 cap2x,vL a3 nm2 cap3x,vL a4 nt2 cap4x])] (gz+3) (gA hγ0) h) ?_
 clear hxs hys hzs hxt0 hyt0 hzt0 hO0
 rintro ⟨l1,l2⟩ B2 w2 ⟨hsp,hO2,⟨xa,xb,hsl2,hxa,hxb⟩,⟨ys,hys,hyt⟩,zs,hzs,hzt⟩ ih
 have hsp:p.shared=l1++l2:=hsp
 have hxa:LsAt (NVr (Nf (phi fr nu))) l1 xa:=hxa
 have hxb:LsAt (NVr (Np (phi fr nu))) l2 xb:=hxb
 have hn2:ns2=l1.length+l2.length:=by rw [hns2,hsp,List.length_append]
 have hFB2:∀ k,F k→B2 k:=fun k h=>hO2.old k (hFB k h)
 have hF2:=hO2.turn.soft hF
 refine rk ?_
 cases l2 with
 | cons v l3=>
   obtain ⟨c,r,rfl,hx,hxr⟩:=hxb
   have hin:l1.length<ns2:=by rw [hn2,List.length_cons];omega
   have hp2:=item_at (fun _ _ h=>NVr.len h) hsl2 hxa hx.len (by omega)
   have hx0:=hx
   obtain ⟨nm,hnm,rfl⟩:=hx
   refine kx (l1.length:Int) (ns2:Int) (by omega) ?_
   refine rk ?_
   refine good_drawL sy_mixed (by kernel_rfl) ?_
   refine q_run [] 60 ?_
   refine qI 22 67 cap2x l1.length hsl2 hin ?_
   refine q_run [] 60 ?_
   refine qV (nT nm) (S:=Instr.loadAt 9 (.pointer (some ⟨gB a2,oB a2+l1.length*3+0,none⟩))) (fun W hk=>ld_pt hp2 (by kernel_rfl) 0 rfl (hk.mono hFB2)) ?_
   refine q_run [] 60 ?_
   refine qB [nT nm,nT fr,nT nu] (nT (phi fr nu nm)) (fun W hk=>dname_any fr nu nm W) ?_
   refine q_run [] 60 ?_
   refine qI 22 67 cap2x l1.length hsl2 hin ?_
   refine q_run [] 60 ?_
   refine qE ?_
   refine rk ?_
   refine good_storeW 9 (.pointer (some ⟨gB a2,oB a2+l1.length*3+0,none⟩)) (nT (phi fr nu nm)) F (Pr:=fun w w'=>TR (phi fr nu) F w w'∧w'.cell? ⟨gB a2,oB a2+l1.length*3+0,none⟩=some (nT (phi fr nu nm))) (by kernel_rfl) (by kernel_rfl) hFB2 (fun W hk=>st_ptR hF2 hp2 (by kernel_rfl) 0 rfl (hk.mono hFB2)) ?_
   intro W3 w3 B3 hk3 ⟨ht3,hcl3⟩ _ hk23 hB23 hB3
   have hO3:RJ (phi fr nu) F B0 w0 B3 w3:=hO2.step (phi_idem fr nu) hFB hk3 ht3 hk23 hB23 hB3
   have ht23:TR (phi fr nu) F w2 w3:=(TR.of_keep hk3 hFB2).trans (phi_idem fr nu) ht3
   obtain ⟨ya,yc,yd,hsl3,hya,hyc,_,hyd⟩:=adv3 hF2 ht23 (NVr_turn (ncl_f (phi_idem fr nu))) (fun c c' h hv=>NVr_turn (ncl_p (phi_idem fr nu)) v c c' h hv) (NVr_turn (ncl_p (phi_idem fr nu))) hsl2 hxa hx0 hxr
   have hp3:=item_at (fun _ _ h=>NVr.len h) hsl3 hya hyc.len (by omega)
   have hyc2:NVr (Nf (phi fr nu)) v yc:=by
    obtain ⟨nm3,h1,rfl⟩:=hyc
    have h8:w3.cell? ⟨gB a2,oB a2+l1.length*3+0,none⟩=some (nT nm3):=sl_cell hp3 (j:=0) rfl
    rw [hcl3] at h8
    injection h8 with h8
    injection h8 with h8
    exact ⟨nm3,by unfold Nf;rw [← str_inj h8,np_phi (phi_idem fr nu) hnm],rfl⟩
   have hys3:=adv1 hF2 ht23 (NTx_turn (ncl_p (phi_idem fr nu))) hys hyt
   have hzs3:=adv1 hF2 ht23 (fun t c c' h hv=>NTh_turn (ncl_p (phi_idem fr nu)) (ncl_p (phi_idem fr nu)) (ncl_p (phi_idem fr nu)) hF2 ht23 t c c' h hv) hzs hzt
   refine rk ?_
   refine gJ 8 l1 v (by omega) ?_
   exact gU _ [(1,vT fr),(2,vT nu),(6,.ptr (gz+1) 0),(7,.ptr (gz+2) 0),(8,vI ((l1++[v]).length:Int))] [(gz,bK 26 3 [vL pa vn qc,vL pb qm qd,vL pd qt qe]),(gz+1,bK 26 3 [vL none 0 0,vL none 0 0,vL none 0 0]),(gz+2,bK 26 3 [vL a2 ns2 cap2x,vL a3 nm2 cap3x,vL a4 nt2 cap4x])] (gz+3) (gA hγ0) (ih (l1++[v],l3) B3 w3 ⟨by show p.shared=(l1++[_])++l3;rw [hsp];simp,hO3,⟨ya++yc,yd,by rw [List.append_assoc];exact hsl3,hya.snoc hyc2,hyd⟩,hys3,hzs3⟩ lS1)
 | nil=>
   have hn3:ns2=l1.length:=by rw [hn2];simp
   have hl1:l1=p.shared:=by rw [hsp];simp
   obtain rfl:xb=[]:=hxb
   rw [List.append_nil] at hsl2
   rw [hl1] at hxa
   refine ky (l1.length:Int) (ns2:Int) (by omega) ?_
   refine rk ?_
   clear ih hn2 hn3 hsp
   have hO0:=hO2
   clear hF2 hFB2 hO2
   refine good_toLp ?_
   refine good_loopB (fun i:List (List UInt8)×List (List UInt8)=>i.2.length) (fun i B w1=>p.mutexes=i.1++i.2∧RJ (phi fr nu) F B0 w0 B w1∧(∃ xa xb,SlAt F w1 a3 nm2 1 (xa++xb)∧LsAt (NTx (Nf (phi fr nu))) i.1 xa∧LsAt (NTx (Np (phi fr nu))) i.2 xb)∧(∃ ys,SlAt F w1 a2 ns2 3 ys∧LsAt (NVr (Nf (phi fr nu))) p.shared ys)∧∃ zs,SlAt F w1 a4 nt2 3 zs∧LsAt (NTh (Np (phi fr nu)) (Np (phi fr nu)) (Np (phi fr nu)) F w1) p.threads zs) (fun i=>⟨mkT [(1,vT fr),(2,vT nu),(6,.ptr (gz+1) 0),(7,.ptr (gz+2) 0),(9,vI (i.1.length:Int))],mkH [(gz,bK 26 3 [vL pa vn qc,vL pb qm qd,vL pd qt qe]),(gz+1,bK 26 3 [vL none 0 0,vL none 0 0,vL none 0 0]),(gz+2,bK 26 3 [vL a2 ns2 cap2x,vL a3 nm2 cap3x,vL a4 nt2 cap4x])],gz+3,[]⟩)
    ([],p.mutexes) ⟨rfl,hO0,⟨[],ys,hys,rfl,hyt⟩,⟨xa,hsl2,hxa⟩,zs,hzs,hzt⟩ (by kernel_rfl)
    (fun h=>gU _ [(1,vT fr),(2,vT nu),(6,.ptr (gz+1) 0),(7,.ptr (gz+2) 0),(9,vI (([]:List (List UInt8)).length:Int))] [(gz,bK 26 3 [vL pa vn qc,vL pb qm qd,vL pd qt qe]),(gz+1,bK 26 3 [vL none 0 0,vL none 0 0,vL none 0 0]),(gz+2,bK 26 3 [vL a2 ns2 cap2x,vL a3 nm2 cap3x,vL a4 nt2 cap4x])] (gz+3) (gA hγ0) h) ?_
   clear hsl2 hys hzs hxa hyt hzt hO0 hl1
   rintro ⟨l1,l2⟩ B2 w2 ⟨hsp,hO2,⟨xa,xb,hsl2,hxa,hxb⟩,⟨ys,hys,hyt⟩,zs,hzs,hzt⟩ ih
   have hsp:p.mutexes=l1++l2:=hsp
   have hxa:LsAt (NTx (Nf (phi fr nu))) l1 xa:=hxa
   have hxb:LsAt (NTx (Np (phi fr nu))) l2 xb:=hxb
   have hn2:nm2=l1.length+l2.length:=by rw [hnm2,hsp,List.length_append]
   have hFB2:∀ k,F k→B2 k:=fun k h=>hO2.old k (hFB k h)
   have hF2:=hO2.turn.soft hF
   refine rk ?_
   cases l2 with
   | cons v l3=>
     obtain ⟨c,r,rfl,hx,hxr⟩:=hxb
     have hin:l1.length<nm2:=by rw [hn2,List.length_cons];omega
     have hp2:=item_at (fun _ _ h=>NTx.len h) hsl2 hxa hx.len (by omega)
     have hx0:=hx
     obtain ⟨nm,hnm,rfl⟩:=hx
     refine kx (l1.length:Int) (nm2:Int) (by omega) ?_
     refine rk ?_
     refine good_drawL sy_mixed (by kernel_rfl) ?_
     refine q_run [] 60 ?_
     refine qI 23 9 cap3x l1.length hsl2 hin ?_
     refine q_run [] 60 ?_
     refine qV (nT nm) (S:=Instr.loadAt 9 (.pointer (some ⟨gB a3,oB a3+l1.length*1,none⟩))) (fun W hk=>ld_pt hp2 (by kernel_rfl) 0 rfl (hk.mono hFB2)) ?_
     refine q_run [] 60 ?_
     refine qB [nT nm,nT fr,nT nu] (nT (phi fr nu nm)) (fun W hk=>dname_any fr nu nm W) ?_
     refine q_run [] 60 ?_
     refine qI 23 9 cap3x l1.length hsl2 hin ?_
     refine q_run [] 60 ?_
     refine qE ?_
     refine rk ?_
     refine good_storeW 9 (.pointer (some ⟨gB a3,oB a3+l1.length*1,none⟩)) (nT (phi fr nu nm)) F (Pr:=fun w w'=>TR (phi fr nu) F w w'∧w'.cell? ⟨gB a3,oB a3+l1.length*1,none⟩=some (nT (phi fr nu nm))) (by kernel_rfl) (by kernel_rfl) hFB2 (fun W hk=>st_ptR hF2 hp2 (by kernel_rfl) 0 rfl (hk.mono hFB2)) ?_
     intro W3 w3 B3 hk3 ⟨ht3,hcl3⟩ _ hk23 hB23 hB3
     have hO3:RJ (phi fr nu) F B0 w0 B3 w3:=hO2.step (phi_idem fr nu) hFB hk3 ht3 hk23 hB23 hB3
     have ht23:TR (phi fr nu) F w2 w3:=(TR.of_keep hk3 hFB2).trans (phi_idem fr nu) ht3
     obtain ⟨ya,yc,yd,hsl3,hya,hyc,_,hyd⟩:=adv3 hF2 ht23 (NTx_turn (ncl_f (phi_idem fr nu))) (fun c c' h hv=>NTx_turn (ncl_p (phi_idem fr nu)) v c c' h hv) (NTx_turn (ncl_p (phi_idem fr nu))) hsl2 hxa hx0 hxr
     have hp3:=item_at (fun _ _ h=>NTx.len h) hsl3 hya hyc.len (by omega)
     have hyc2:NTx (Nf (phi fr nu)) v yc:=by
      obtain ⟨nm3,h1,rfl⟩:=hyc
      have h8:w3.cell? ⟨gB a3,oB a3+l1.length*1,none⟩=some (nT nm3):=sl_cell hp3 (j:=0) rfl
      rw [hcl3] at h8
      injection h8 with h8
      injection h8 with h8
      exact ⟨nm3,by unfold Nf;rw [← str_inj h8,np_phi (phi_idem fr nu) hnm],rfl⟩
     have hys3:=adv1 hF2 ht23 (NVr_turn (ncl_f (phi_idem fr nu))) hys hyt
     have hzs3:=adv1 hF2 ht23 (fun t c c' h hv=>NTh_turn (ncl_p (phi_idem fr nu)) (ncl_p (phi_idem fr nu)) (ncl_p (phi_idem fr nu)) hF2 ht23 t c c' h hv) hzs hzt
     refine rk ?_
     refine gJ 9 l1 v (by omega) ?_
     exact gU _ [(1,vT fr),(2,vT nu),(6,.ptr (gz+1) 0),(7,.ptr (gz+2) 0),(9,vI ((l1++[v]).length:Int))] [(gz,bK 26 3 [vL pa vn qc,vL pb qm qd,vL pd qt qe]),(gz+1,bK 26 3 [vL none 0 0,vL none 0 0,vL none 0 0]),(gz+2,bK 26 3 [vL a2 ns2 cap2x,vL a3 nm2 cap3x,vL a4 nt2 cap4x])] (gz+3) (gA hγ0) (ih (l1++[v],l3) B3 w3 ⟨by show p.mutexes=(l1++[_])++l3;rw [hsp];simp,hO3,⟨ya++yc,yd,by rw [List.append_assoc];exact hsl3,hya.snoc hyc2,hyd⟩,hys3,hzs3⟩ lS1)
   | nil=>
     have hn3:nm2=l1.length:=by rw [hn2];simp
     have hl1:l1=p.mutexes:=by rw [hsp];simp
     obtain rfl:xb=[]:=hxb
     rw [List.append_nil] at hsl2
     rw [hl1] at hxa
     refine ky (l1.length:Int) (nm2:Int) (by omega) ?_
     refine rk ?_
     clear ih hn2 hn3 hsp
     have hO0:=hO2
     clear hF2 hFB2 hO2
     refine good_toLp ?_
     refine good_loopB (fun i:List Th×List Th=>i.2.length) (fun i B w1=>p.threads=i.1++i.2∧RJ (phi fr nu) F B0 w0 B w1∧(∃ xa xb,SlAt F w1 a4 nt2 3 (xa++xb)∧LsAt (NTh (Nf (phi fr nu)) (Nf (phi fr nu)) (Nf (phi fr nu)) F w1) i.1 xa∧LsAt (NTh (Np (phi fr nu)) (Np (phi fr nu)) (Np (phi fr nu)) F w1) i.2 xb)∧(∃ xs,SlAt F w1 a2 ns2 3 xs∧LsAt (NVr (Nf (phi fr nu))) p.shared xs)∧(∃ ys,SlAt F w1 a3 nm2 1 ys∧LsAt (NTx (Nf (phi fr nu))) p.mutexes ys)) (fun i=>⟨mkT [(1,vT fr),(2,vT nu),(6,.ptr (gz+1) 0),(7,.ptr (gz+2) 0),(10,vI (i.1.length:Int))],mkH [(gz,bK 26 3 [vL pa vn qc,vL pb qm qd,vL pd qt qe]),(gz+1,bK 26 3 [vL none 0 0,vL none 0 0,vL none 0 0]),(gz+2,bK 26 3 [vL a2 ns2 cap2x,vL a3 nm2 cap3x,vL a4 nt2 cap4x])],gz+3,[]⟩)
      ([],p.threads) ⟨rfl,hO0,⟨[],zs,hzs,rfl,hzt⟩,⟨ys,hys,hyt⟩,xa,hsl2,hxa⟩ (by kernel_rfl)
      (fun h=>gU _ [(1,vT fr),(2,vT nu),(6,.ptr (gz+1) 0),(7,.ptr (gz+2) 0),(10,vI (([]:List Th).length:Int))] [(gz,bK 26 3 [vL pa vn qc,vL pb qm qd,vL pd qt qe]),(gz+1,bK 26 3 [vL none 0 0,vL none 0 0,vL none 0 0]),(gz+2,bK 26 3 [vL a2 ns2 cap2x,vL a3 nm2 cap3x,vL a4 nt2 cap4x])] (gz+3) (gA hγ0) h) ?_
     clear hsl2 hys hzs hxa hyt hzt hO0 hl1
     rintro ⟨l1,l2⟩ B2 w2 ⟨hsp,hO2,⟨xa,xb,hsl2,hxa,hxb⟩,hxs2,hys2⟩ ih
     have hsp:p.threads=l1++l2:=hsp
     have hxa:LsAt (NTh (Nf (phi fr nu)) (Nf (phi fr nu)) (Nf (phi fr nu)) F w2) l1 xa:=hxa
     have hxb:LsAt (NTh (Np (phi fr nu)) (Np (phi fr nu)) (Np (phi fr nu)) F w2) l2 xb:=hxb
     have hn2:nt2=l1.length+l2.length:=by rw [hnt2,hsp,List.length_append]
     have hFB2:∀ k,F k→B2 k:=fun k h=>hO2.old k (hFB k h)
     have hF2:=hO2.turn.soft hF
     have hw1:thws p.threads=thws l1+thws l2:=by rw [hsp,thws_app]
     refine rk ?_
     cases l2 with
     | nil=>
       have hn3:nt2=l1.length:=by rw [hn2];simp
       have hl1:l1=p.threads:=by rw [hsp];simp
       obtain rfl:xb=[]:=hxb
       rw [List.append_nil] at hsl2
       rw [hl1] at hxa
       refine ky (l1.length:Int) (nt2:Int) (by omega) ?_
       refine rk ?_
       obtain ⟨xs2,hxs2,hxt2⟩:=hxs2
       obtain ⟨ys2,hys2,hyt2⟩:=hys2
       refine gR (.agg #[.slice a2 ns2 cap2x,.slice a3 nm2 cap3x,.slice a4 nt2 cap4x]) (fun W hk=>⟨_,rfl,⟨_,rfl,?_⟩,?_⟩)
       · have hup:∀ k,F k→NewIn w W k:=fun k h=>⟨hFn k h,Nat.lt_of_lt_of_le (hO2.lt k (hFB2 k h)) hk.size⟩
         have hkF:Keep F w2 W:=hk.mono hFB2
         refine ⟨a2,cap2x,xs2,a3,cap3x,ys2,a4,cap4x,xa,?_,?_,LsAt_map (f:=rnV (phi fr nu)) (fun _ _ h=>NVr.to h) hxt2,?_,LsAt_map (f:=(phi fr nu)) (fun _ _ h=>NTx.to h) hyt2,?_,LsAt_map (A:=NTh (Nf (phi fr nu)) (Nf (phi fr nu)) (Nf (phi fr nu)) F w2) (f:=rnT (phi fr nu)) (fun _ _ h=>(NTh.to h).keep hkF hup) hxa⟩
         · simp only [rnP,List.length_map];rw [← hns2,← hnm2,← hnt2]
         · simp only [rnP,List.length_map];rw [← hns2];exact (hxs2.keep hkF).mono hup
         · simp only [rnP,List.length_map];rw [← hnm2];exact (hys2.keep hkF).mono hup
         · simp only [rnP,List.length_map];rw [← hnt2];exact (hsl2.keep hkF).mono hup
       · exact (hk0.trans ((hO2.keep.mono fun k h=>⟨hB00 k h,fun h2=>Nat.not_lt.2 (hFn k h2) h⟩).trans (hk.mono fun k h=>hO2.old k (hB00 k h)))).below
     | cons th0 l3=>
       obtain ⟨c,r,rfl,hx,hxr⟩:=hxb
       have hx:∃ la lcap lb lcap2,NThx (Np (phi fr nu)) (NVr (Np (phi fr nu))) (Np (phi fr nu)) F w2 la lcap lb lcap2 th0 c:=by
        obtain ⟨nm,a,cap,xs,b,cap2,ys,h1,h2,h3,h4,h5,h6⟩:=hx
        exact ⟨a,cap,b,cap2,nm,xs,ys,h1,h2,h3,h4,h5,h6⟩
       obtain ⟨la,lcap,lb,lcap2,hx⟩:=hx
       have hin:l1.length<nt2:=by rw [hn2,List.length_cons];omega
       have hp2:=item_at (fun _ _ h=>NTh.len h) hsl2 hxa hx.len (by omega)
       simp only [thws,thw] at hw1
       have hx0:=hx
       obtain ⟨nm,lxs,lys,hnm,rfl,hl,hls,hb,hbs⟩:=hx
       refine kx (l1.length:Int) (nt2:Int) (by omega) ?_
       refine rk ?_
       refine gI 24 58 cap4x l1.length hsl2 hin ?_
       refine rk ?_
       refine gV (nT nm) (S:=Instr.loadAt 9 (.pointer (some ⟨gB a4,oB a4+l1.length*3+0,none⟩))) (fun W hk=>ld_pt hp2 (by kernel_rfl) 0 rfl (hk.mono hFB2)) ?_
       refine rk ?_
       refine gX [nT nm,nT fr,nT nu] (nT (phi fr nu nm)) (fun W hk=>dname_any fr nu nm W) ?_
       refine rk ?_
       refine good_storeW 9 (.pointer (some ⟨gB a4,oB a4+l1.length*3+0,none⟩)) (nT (phi fr nu nm)) F (Pr:=fun w w'=>TR (phi fr nu) F w w'∧w'.cell? ⟨gB a4,oB a4+l1.length*3+0,none⟩=some (nT (phi fr nu nm))) (by kernel_rfl) (by kernel_rfl) hFB2 (fun W hk=>st_ptR hF2 hp2 (by kernel_rfl) 0 rfl (hk.mono hFB2)) ?_
       intro W3 w3 B3 hk3 ⟨ht3,hcl3⟩ _ hk23 hB23 hB3
       have hO3:RJ (phi fr nu) F B0 w0 B3 w3:=hO2.step (phi_idem fr nu) hFB hk3 ht3 hk23 hB23 hB3
       have ht23:TR (phi fr nu) F w2 w3:=(TR.of_keep hk3 hFB2).trans (phi_idem fr nu) ht3
       obtain ⟨xa3,c3,r3,hsl3,hxa3,hx3,_,hxr3⟩:=adv3 hF2 ht23 (Px':=NThx (Np (phi fr nu)) (NVr (Np (phi fr nu))) (Np (phi fr nu)) F w3 la lcap lb lcap2 th0) (fun t c c' h hv=>NTh_turn (ncl_f (phi_idem fr nu)) (ncl_f (phi_idem fr nu)) (ncl_f (phi_idem fr nu)) hF2 ht23 t c c' h hv) (fun _ _ h hv=>NThx_turn (ncl_p (phi_idem fr nu)) (NVr_turn (ncl_p (phi_idem fr nu))) (ncl_p (phi_idem fr nu)) hF2 ht23 h hv) (fun t c c' h hv=>NTh_turn (ncl_p (phi_idem fr nu)) (ncl_p (phi_idem fr nu)) (ncl_p (phi_idem fr nu)) hF2 ht23 t c c' h hv) hsl2 hxa hx0 hxr
       have hp3:=item_at (fun _ _ h=>NTh.len h) hsl3 hxa3 hx3.len (by omega)
       have hF3:=ht23.soft hF2
       have hFB3:∀ k,F k→B3 k:=fun k h=>hO3.old k (hFB k h)
       have hxs3:∃ xs,SlAt F w3 a2 ns2 3 xs∧LsAt (NVr (Nf (phi fr nu))) p.shared xs:=let ⟨_,h1,h2⟩:=hxs2;adv1 hF2 ht23 (NVr_turn (ncl_f (phi_idem fr nu))) h1 h2
       have hys3:∃ ys,SlAt F w3 a3 nm2 1 ys∧LsAt (NTx (Nf (phi fr nu))) p.mutexes ys:=let ⟨_,h1,h2⟩:=hys2;adv1 hF2 ht23 (NTx_turn (ncl_f (phi_idem fr nu))) h1 h2
       have hx3:NThx (Nf (phi fr nu)) (NVr (Np (phi fr nu))) (Np (phi fr nu)) F w3 la lcap lb lcap2 th0 c3:=by
        obtain ⟨nm3,bx3,lx3,h1,rfl,h3,h4,h5,h6⟩:=hx3
        have h8:w3.cell? ⟨gB a4,oB a4+l1.length*3+0,none⟩=some (nT nm3):=sl_cell hp3 (j:=0) rfl
        rw [hcl3] at h8
        injection h8 with h8
        injection h8 with h8
        exact ⟨nm3,bx3,lx3,by unfold Nf;rw [← str_inj h8,np_phi (phi_idem fr nu) hnm],rfl,h3,h4,h5,h6⟩
       clear hcl3 hp2 hb hbs hl hls hnm hx0
       obtain ⟨ln,hln⟩:∃ n,n=th0.locals.length:=⟨_,rfl⟩
       refine rk ?_
       refine good_toLp ?_
       have hit3:(∃ xa c r nm lxa lxb lys,SlAt F w3 a4 nt2 3 (xa++(c++r))∧LsAt (NTh (Nf (phi fr nu)) (Nf (phi fr nu)) (Nf (phi fr nu)) F w3) l1 xa∧LsAt (NTh (Np (phi fr nu)) (Np (phi fr nu)) (Np (phi fr nu)) F w3) l3 r∧nm=phi fr nu th0.name∧c=[nT nm,.slice la ln lcap,.slice lb th0.body.length lcap2]∧SlAt F w3 la ln 3 (lxa++lxb)∧LsAt (NVr (Nf (phi fr nu))) ([]:List Vr) lxa∧LsAt (NVr (Np (phi fr nu))) th0.locals lxb∧SlAt F w3 lb th0.body.length 9 lys∧NSts (Np (phi fr nu)) F w3 th0.body lys):=by
        obtain ⟨nm3,bx3,lx3,h1,rfl,h3,h4,h5,h6⟩:=hx3
        exact ⟨xa3,_,r3,nm3,[],bx3,lx3,hsl3,hxa3,hxr3,h1,by rw [hln],by rw [hln];exact h3,rfl,h4,h5,h6⟩
       refine good_loopB (fun i:List Vr×List Vr=>i.2.length) (fun i B w1=>th0.locals=i.1++i.2∧RJ (phi fr nu) F B0 w0 B w1∧(∃ xa c r nm lxa lxb lys,SlAt F w1 a4 nt2 3 (xa++(c++r))∧LsAt (NTh (Nf (phi fr nu)) (Nf (phi fr nu)) (Nf (phi fr nu)) F w1) l1 xa∧LsAt (NTh (Np (phi fr nu)) (Np (phi fr nu)) (Np (phi fr nu)) F w1) l3 r∧nm=phi fr nu th0.name∧c=[nT nm,.slice la ln lcap,.slice lb th0.body.length lcap2]∧SlAt F w1 la ln 3 (lxa++lxb)∧LsAt (NVr (Nf (phi fr nu))) i.1 lxa∧LsAt (NVr (Np (phi fr nu))) i.2 lxb∧SlAt F w1 lb th0.body.length 9 lys∧NSts (Np (phi fr nu)) F w1 th0.body lys)∧(∃ xs,SlAt F w1 a2 ns2 3 xs∧LsAt (NVr (Nf (phi fr nu))) p.shared xs)∧(∃ ys,SlAt F w1 a3 nm2 1 ys∧LsAt (NTx (Nf (phi fr nu))) p.mutexes ys)) (fun i=>⟨mkT [(1,vT fr),(2,vT nu),(6,.ptr (gz+1) 0),(7,.ptr (gz+2) 0),(10,vI (l1.length:Int)),(11,.v (.pointer (some ⟨gB a4,oB a4+l1.length*3,none⟩))),(12,vI (i.1.length:Int))],mkH [(gz,bK 26 3 [vL pa vn qc,vL pb qm qd,vL pd qt qe]),(gz+1,bK 26 3 [vL none 0 0,vL none 0 0,vL none 0 0]),(gz+2,bK 26 3 [vL a2 ns2 cap2x,vL a3 nm2 cap3x,vL a4 nt2 cap4x])],gz+3,[]⟩)
        ([],th0.locals) ⟨rfl,hO3,hit3,hxs3,hys3⟩ (by kernel_rfl)
        (fun h=>gU _ [(1,vT fr),(2,vT nu),(6,.ptr (gz+1) 0),(7,.ptr (gz+2) 0),(10,vI (l1.length:Int)),(11,.v (.pointer (some ⟨gB a4,oB a4+l1.length*3,none⟩))),(12,vI (([]:List Vr).length:Int))] [(gz,bK 26 3 [vL pa vn qc,vL pb qm qd,vL pd qt qe]),(gz+1,bK 26 3 [vL none 0 0,vL none 0 0,vL none 0 0]),(gz+2,bK 26 3 [vL a2 ns2 cap2x,vL a3 nm2 cap3x,vL a4 nt2 cap4x])] (gz+3) (gA hγ0) h) ?_
       clear hit3 hx3 hxa3 hxr3 hsl3 hp3 hO3 hxs3 hys3 ht23 hk23 ht3 hk3 hF2 hFB2 hO2 hxa hxr hsl2 hxs2 hys2 hF3 hFB3
       rintro ⟨m1,m2⟩ B5 w5 ⟨hsp5,hO5,⟨xa5,c5,r5,nm5,lxa,lxb,lys5,hsl5,hxa5,hxr5,hnm5,hc5,hl5,hlxa,hlxb,hb5,hbs5⟩,hxs5,hys5⟩ ih5
       have hsp5:th0.locals=m1++m2:=hsp5
       have hlxa:LsAt (NVr (Nf (phi fr nu))) m1 lxa:=hlxa
       have hlxb:LsAt (NVr (Np (phi fr nu))) m2 lxb:=hlxb
       subst hc5
       have hm2:ln=m1.length+m2.length:=by rw [hln,hsp5,List.length_append]
       have hFB5:∀ k,F k→B5 k:=fun k h=>hO5.old k (hFB k h)
       have hF5:=hO5.turn.soft hF
       have hp5:=item_at (fun _ _ h=>NTh.len h) hsl5 hxa5 rfl (by omega)
       refine rk ?_
       refine gV (.slice la ln lcap) (S:=Instr.loadAt 22 (.pointer (some ⟨gB a4,oB a4+l1.length*3+1,none⟩))) (fun W hk=>ld_pt hp5 (by kernel_rfl) 1 rfl (hk.mono hFB5)) ?_
       refine rk ?_
       cases m2 with
       | cons v m3=>
         obtain ⟨c6,r6,rfl,hv,hvr⟩:=hlxb
         have hin5:m1.length<ln:=by rw [hm2,List.length_cons];omega
         have hpv:=item_at (fun _ _ h=>NVr.len h) hl5 hlxa hv.len (by omega)
         have hv0:=hv
         obtain ⟨nv,hnv,rfl⟩:=hv
         refine kx (m1.length:Int) (ln:Int) (by omega) ?_
         refine rk ?_
         refine good_drawL sy_mixed (by kernel_rfl) ?_
         refine q_run [] 60 ?_
         refine qV (.slice la ln lcap) (S:=Instr.loadAt 22 (.pointer (some ⟨gB a4,oB a4+l1.length*3+1,none⟩))) (fun W hk=>ld_pt hp5 (by kernel_rfl) 1 rfl (hk.mono hFB5)) ?_
         refine q_run [] 60 ?_
         refine qV (.slice la ln lcap) (S:=Instr.loadAt 22 (.pointer (some ⟨gB a4,oB a4+l1.length*3+1,none⟩))) (fun W hk=>ld_pt hp5 (by kernel_rfl) 1 rfl (hk.mono hFB5)) ?_
         refine q_run [] 60 ?_
         refine qI 22 67 lcap m1.length hl5 hin5 ?_
         refine q_run [] 60 ?_
         refine qV (nT nv) (S:=Instr.loadAt 9 (.pointer (some ⟨gB la,oB la+m1.length*3+0,none⟩))) (fun W hk=>ld_pt hpv (by kernel_rfl) 0 rfl (hk.mono hFB5)) ?_
         refine q_run [] 60 ?_
         refine qB [nT nv,nT fr,nT nu] (nT (phi fr nu nv)) (fun W hk=>dname_any fr nu nv W) ?_
         refine q_run [] 60 ?_
         refine qI 22 67 lcap m1.length hl5 hin5 ?_
         refine q_run [] 60 ?_
         refine qE ?_
         refine rk ?_
         refine good_storeW 9 (.pointer (some ⟨gB la,oB la+m1.length*3+0,none⟩)) (nT (phi fr nu nv)) F (Pr:=fun w w'=>TR (phi fr nu) F w w'∧w'.cell? ⟨gB la,oB la+m1.length*3+0,none⟩=some (nT (phi fr nu nv))) (by kernel_rfl) (by kernel_rfl) hFB5 (fun W hk=>st_ptR hF5 hpv (by kernel_rfl) 0 rfl (hk.mono hFB5)) ?_
         intro W7 w7 B7 hk7 ⟨ht7,hcl7⟩ _ hk57 hB57 hB7
         have hO7:RJ (phi fr nu) F B0 w0 B7 w7:=hO5.step (phi_idem fr nu) hFB hk7 ht7 hk57 hB57 hB7
         have ht57:TR (phi fr nu) F w5 w7:=(TR.of_keep hk7 hFB5).trans (phi_idem fr nu) ht7
         obtain ⟨va,vc,vd,hl7,hva,hvc,_,hvd⟩:=adv3 hF5 ht57 (NVr_turn (ncl_f (phi_idem fr nu))) (fun c c' h hv=>NVr_turn (ncl_p (phi_idem fr nu)) v c c' h hv) (NVr_turn (ncl_p (phi_idem fr nu))) hl5 hlxa hv0 hvr
         have hpv7:=item_at (fun _ _ h=>NVr.len h) hl7 hva hvc.len (by omega)
         have hvc2:NVr (Nf (phi fr nu)) v vc:=by
          obtain ⟨nm3,h1,rfl⟩:=hvc
          have h8:w7.cell? ⟨gB la,oB la+m1.length*3+0,none⟩=some (nT nm3):=sl_cell hpv7 (j:=0) rfl
          rw [hcl7] at h8
          injection h8 with h8
          injection h8 with h8
          exact ⟨nm3,by unfold Nf;rw [← str_inj h8,np_phi (phi_idem fr nu) hnv],rfl⟩
         have hit7:(∃ xa c r nm lxa lxb lys,SlAt F w7 a4 nt2 3 (xa++(c++r))∧LsAt (NTh (Nf (phi fr nu)) (Nf (phi fr nu)) (Nf (phi fr nu)) F w7) l1 xa∧LsAt (NTh (Np (phi fr nu)) (Np (phi fr nu)) (Np (phi fr nu)) F w7) l3 r∧nm=phi fr nu th0.name∧c=[nT nm,.slice la ln lcap,.slice lb th0.body.length lcap2]∧SlAt F w7 la ln 3 (lxa++lxb)∧LsAt (NVr (Nf (phi fr nu))) (m1++[v]) lxa∧LsAt (NVr (Np (phi fr nu))) m3 lxb∧SlAt F w7 lb th0.body.length 9 lys∧NSts (Np (phi fr nu)) F w7 th0.body lys):=by
          obtain ⟨ya,yc,yd,hslq,hya,hyc,_,hyd⟩:=adv3 hF5 ht57 (Px':=fun c=>c=[nT nm5,.slice la ln lcap,.slice lb th0.body.length lcap2]) (fun t c c' h hv=>NTh_turn (ncl_f (phi_idem fr nu)) (ncl_f (phi_idem fr nu)) (ncl_f (phi_idem fr nu)) hF5 ht57 t c c' h hv) (fun c c' (h:c=[nT nm5,.slice la ln lcap,.slice lb th0.body.length lcap2]) hv=>by
           subst h
           rw [hnm5] at hv ⊢
           exact cells3_rv (phi_idem fr nu) hv) (fun t c c' h hv=>NTh_turn (ncl_p (phi_idem fr nu)) (ncl_p (phi_idem fr nu)) (ncl_p (phi_idem fr nu)) hF5 ht57 t c c' h hv) hsl5 hxa5 rfl hxr5
          obtain ⟨ly7,hb7,hrv7⟩:=SlAt_turnR hF5 hb5 ht57
          exact ⟨ya,yc,yd,nm5,va++vc,vd,ly7,hslq,hya,hyd,hnm5,hyc,by rw [List.append_assoc];exact hl7,hva.snoc hvc2,hvd,hb7,NSts_turn (ncl_p (phi_idem fr nu)) hF5 ht57 _ _ _ hbs5 hrv7⟩
         have hxs7:∃ xs,SlAt F w7 a2 ns2 3 xs∧LsAt (NVr (Nf (phi fr nu))) p.shared xs:=let ⟨_,h1,h2⟩:=hxs5;adv1 hF5 ht57 (NVr_turn (ncl_f (phi_idem fr nu))) h1 h2
         have hys7:∃ ys,SlAt F w7 a3 nm2 1 ys∧LsAt (NTx (Nf (phi fr nu))) p.mutexes ys:=let ⟨_,h1,h2⟩:=hys5;adv1 hF5 ht57 (NTx_turn (ncl_f (phi_idem fr nu))) h1 h2
         refine rk ?_
         refine gJ 12 m1 v (by omega) ?_
         exact gU _ [(1,vT fr),(2,vT nu),(6,.ptr (gz+1) 0),(7,.ptr (gz+2) 0),(10,vI (l1.length:Int)),(11,.v (.pointer (some ⟨gB a4,oB a4+l1.length*3,none⟩))),(12,vI ((m1++[v]).length:Int))] [(gz,bK 26 3 [vL pa vn qc,vL pb qm qd,vL pd qt qe]),(gz+1,bK 26 3 [vL none 0 0,vL none 0 0,vL none 0 0]),(gz+2,bK 26 3 [vL a2 ns2 cap2x,vL a3 nm2 cap3x,vL a4 nt2 cap4x])] (gz+3) (gA hγ0) (ih5 (m1++[v],m3) B7 w7 ⟨by show th0.locals=(m1++[_])++m3;rw [hsp5];simp,hO7,hit7,hxs7,hys7⟩ lS1)
       | nil=>
         have hm3:ln=m1.length:=by rw [hm2];simp
         have hlm:m1=th0.locals:=by rw [hsp5];simp
         obtain rfl:lxb=[]:=hlxb
         rw [List.append_nil] at hl5
         rw [hlm] at hlxa
         refine ky (m1.length:Int) (ln:Int) (by omega) ?_
         refine rk ?_
         refine gV (.slice lb th0.body.length lcap2) (S:=Instr.loadAt 54 (.pointer (some ⟨gB a4,oB a4+l1.length*3+2,none⟩))) (fun W hk=>ld_pt hp5 (by kernel_rfl) 2 rfl (hk.mono hFB5)) ?_
         refine rk ?_
         refine good_callW (sy_cx _ _) [.slice lb th0.body.length lcap2,nT fr,nT nu] F (Pr:=fun w r w'=>r = .tuple #[]∧TR (phi fr nu) F w w'∧∃ xs',SlAt F w' lb th0.body.length 9 xs'∧NSts (Nf (phi fr nu)) F w' th0.body xs') (by kernel_rfl) (by kernel_rfl) (by kernel_rfl) (by kernel_rfl) hFB5
          (fun W hk=>(drstmts_any fr nu _ th0.body _ _ _ _ F W rfl (Nat.lt_succ_self _) (by omega) ((TR.of_keep (φ:=(phi fr nu)) hk hFB5).soft hF5) (hb5.keep (hk.mono hFB5)) (NSts_turn (ncl_p (phi_idem fr nu)) hF5 (TR.of_keep hk hFB5) _ _ _ hbs5 ⟨rfl,fun j v hv=>⟨v,hv,.refl v⟩⟩)).mono fun r w' ⟨h1,h2,h3,h4⟩=>⟨_,h1,⟨rfl,h3,h4⟩,h2⟩) ?_
         rintro W8 rr8 w8 B8 hk8 ⟨rfl,ht8,by8,hby8,hbt8⟩ _ hk58 hB58 _ hB8
         have hO8:RJ (phi fr nu) F B0 w0 B8 w8:=hO5.step (phi_idem fr nu) hFB hk8 ht8 hk58 hB58 hB8
         have ht58:TR (phi fr nu) F w5 w8:=(TR.of_keep hk8 hFB5).trans (phi_idem fr nu) ht8
         have hxs8:∃ xs,SlAt F w8 a2 ns2 3 xs∧LsAt (NVr (Nf (phi fr nu))) p.shared xs:=let ⟨_,h1,h2⟩:=hxs5;adv1 hF5 ht58 (NVr_turn (ncl_f (phi_idem fr nu))) h1 h2
         have hys8:∃ ys,SlAt F w8 a3 nm2 1 ys∧LsAt (NTx (Nf (phi fr nu))) p.mutexes ys:=let ⟨_,h1,h2⟩:=hys5;adv1 hF5 ht58 (NTx_turn (ncl_f (phi_idem fr nu))) h1 h2
         obtain ⟨ya,yc,yd,hslq,hya,hyc,_,hyd⟩:=adv3 hF5 ht58 (Px':=fun c=>c=[nT nm5,.slice la ln lcap,.slice lb th0.body.length lcap2]) (fun t c c' h hv=>NTh_turn (ncl_f (phi_idem fr nu)) (ncl_f (phi_idem fr nu)) (ncl_f (phi_idem fr nu)) hF5 ht58 t c c' h hv) (fun c c' (h:c=[nT nm5,.slice la ln lcap,.slice lb th0.body.length lcap2]) hv=>by
          subst h
          rw [hnm5] at hv ⊢
          exact cells3_rv (phi_idem fr nu) hv) (fun t c c' h hv=>NTh_turn (ncl_p (phi_idem fr nu)) (ncl_p (phi_idem fr nu)) (ncl_p (phi_idem fr nu)) hF5 ht58 t c c' h hv) hsl5 hxa5 rfl hxr5
         obtain ⟨lx8,hl8,hlt8⟩:=adv1 hF5 ht58 (NVr_turn (ncl_f (phi_idem fr nu))) hl5 hlxa
         have hth8:NTh (Nf (phi fr nu)) (Nf (phi fr nu)) (Nf (phi fr nu)) F w8 th0 yc:=⟨nm5,la,lcap,lx8,lb,lcap2,by8,hnm5,by rw [hyc,hln],by rw [← hln];exact hl8,hlt8,hby8,hbt8⟩
         refine rk ?_
         refine gJ 10 l1 th0 (by omega) ?_
         exact gU _ [(1,vT fr),(2,vT nu),(6,.ptr (gz+1) 0),(7,.ptr (gz+2) 0),(10,vI ((l1++[th0]).length:Int))] [(gz,bK 26 3 [vL pa vn qc,vL pb qm qd,vL pd qt qe]),(gz+1,bK 26 3 [vL none 0 0,vL none 0 0,vL none 0 0]),(gz+2,bK 26 3 [vL a2 ns2 cap2x,vL a3 nm2 cap3x,vL a4 nt2 cap4x])] (gz+3) (gA hγ0) (ih (l1++[th0],l3) B8 w8 ⟨by show p.threads=(l1++[_])++l3;rw [hsp];simp,hO8,⟨ya++yc,yd,by rw [List.append_assoc];exact hslq,hya.snoc hth8,hyd⟩,hxs8,hys8⟩ lS1)
end
section
theorem spotGuard:Tryz.prog.eqGuardType Tryz.prog.depth 80=false:=by kernel_rfl
theorem run_eql_spot (ox oy:Operand) (s:Spt) (w:World):
  (do eqGuard .eql 80 ox oy (spV s) (spV s);binOp .eql 80 (spV s) (spV s):Sem Value).run Tryz.prog w = .ok (.bool true) w:=by
 obtain ⟨a,b,c⟩:=s
 have h1:(eqGuard .eql 80 ox oy (spV (a,b,c)) (spV (a,b,c))).run Tryz.prog w = .ok () w:=by
  have:=spotGuard
  unfold eqGuard spV
  go_simp
 have h2:(binOp .eql 80 (spV (a,b,c)) (spV (a,b,c))).run Tryz.prog w = .ok (.bool true) w:=by
  have h0:Tryz.prog.underlying 80=some (.struct (Tryz.prog.fieldsOf 80)):=by rw [Program.fieldsOf,Tryz.underlying80]
  unfold spV
  rw [run_eql_struct,run_equalIn_agg w 9999 _ _ _ h0 (by kernel_rfl)]
  have h1:=run_equalIn_int (P:=Tryz.prog) w 9998 39 .i64 .i64 a a Tryz.underlying39
  have h2:=run_equalIn_int (P:=Tryz.prog) w 9998 3 .i64 .i64 b b Tryz.underlying3
  have h3:=run_equalIn_int (P:=Tryz.prog) w 9998 3 .i64 .i64 c c Tryz.underlying3
  rw [Program.fieldsOf,Tryz.underlying80]
  go_simp
 exact Sy.eqG2 h1 h2
theorem run_rem (ox oy:Operand) (a b:Int) (hb:0<b) (hb2:b≤1000000000000) (w:World):
  (do eqGuard .rem 3 ox oy (.int .i64 a) (.int .i64 b);binOp .rem 3 (.int .i64 a) (.int .i64 b):Sem Value).run Tryz.prog w = .ok (.int .i64 (a.tmod b)) w:=by
 have h1:(eqGuard .rem 3 ox oy (.int .i64 a) (.int .i64 b)).run Tryz.prog w = .ok () w:=rfl
 refine Sy.eqG2 h1 ?_
 rw [binOp_rem]
 have hne:b≠0:=by omega
 simp [Op.intDiv,hne]
theorem phi_len {a b:List UInt8} (hb:b.length≤24) (s:List UInt8):(phi a b s).length≤s.length+24:=by
 unfold phi
 split <;> omega
section
variable {a b:List UInt8}
mutual
theorem rnE_B (hb:b.length≤24):∀ e:Ex,exB (rnE (phi a b) e)≤25*exB e
 | .mk op ty bits name kids=>by
   have h1:=phi_len (a:=a) hb name
   have h2:=rnEs_B hb kids
   simp only [rnE,exB]
   omega
theorem rnEs_B (hb:b.length≤24):∀ l:List Ex,exBs (rnEs (phi a b) l)≤25*exBs l
 | []=>Nat.le_refl _
 | e::l=>by
   have h1:=rnE_B hb e
   have h2:=rnEs_B hb l
   simp only [rnEs,exBs]
   omega
end
mutual
theorem rnS_B (hb:b.length≤24):∀ s:St,stB (rnS (phi a b) s)≤25*stB s
 | .mk k n e c l=>by
   have h1:=phi_len (a:=a) hb n
   have h2:=rnE_B (a:=a) hb e
   have h3:=rnSs_B hb c
   have h4:=rnSs_B hb l
   simp only [rnS,stB]
   omega
theorem rnSs_B (hb:b.length≤24):∀ l:List St,stBs (rnSs (phi a b) l)≤25*stBs l
 | []=>Nat.le_refl _
 | e::l=>by
   have h1:=rnS_B hb e
   have h2:=rnSs_B hb l
   simp only [rnSs,stBs]
   omega
end
theorem sumN_map25 {α β:Type} {μ:α→Nat} {ν:β→Nat} {f:β→α} (h:∀ x,μ (f x)≤25*ν x):∀ l:List β,sumN μ (l.map f)≤25*sumN ν l
 | []=>Nat.le_refl _
 | x::l=>by
   have h1:=h x
   have h2:=sumN_map25 h l
   simp only [List.map_cons,sumN]
   omega
theorem rnP_B (hb:b.length≤24) (p:Pg):pgB (rnP (phi a b) p)≤25*pgB p:=by
 have hv:∀ v:Vr,vrB (rnV (phi a b) v)≤25*vrB v:=fun v=>by
  have:=phi_len (a:=a) hb v.name
  simp only [vrB,rnV]
  omega
 have hm:∀ s:List UInt8,txB (phi a b s)≤25*txB s:=fun s=>by
  have:=phi_len (a:=a) hb s
  simp only [txB]
  omega
 have ht:∀ t:Th,thB (rnT (phi a b) t)≤25*thB t:=fun t=>by
  have h1:=phi_len (a:=a) hb t.name
  have h2:=sumN_map25 hv t.locals
  have h3:=rnSs_B (a:=a) hb t.body
  simp only [thB,rnT]
  omega
 have h1:=sumN_map25 hv p.shared
 have h2:=sumN_map25 hm p.mutexes
 have h3:=sumN_map25 ht p.threads
 simp only [pgB,rnP]
 omega
end
theorem nameB_len {l:List UInt8} (h:nameB l=true):l.length≤24:=by
 unfold nameB at h
 split at h
 · cases h
 split at h
 · cases h
 omega
theorem pg_namesC {x:Pg} (hx:pgB x≤1048576):nls x.mutexes+vls x.shared+tls x.threads≤1000000000000:=by
 have h1:∀ (l:List (List UInt8)),nls l≤sumN txB l:=by
  intro l
  induction l with
  | nil=>exact Nat.le_refl _
  | cons s l ih=>simp only [nls,sumN,txB];omega
 have h2:∀ (l:List Vr),vls l≤sumN vrB l:=by
  intro l
  induction l with
  | nil=>exact Nat.le_refl _
  | cons s l ih=>simp only [vls,sumN,vrB];omega
 have h3:∀ (l:List Th),tls l≤sumN thB l:=by
  intro l
  induction l with
  | nil=>exact Nat.le_refl _
  | cons s l ih=>
    have:=h2 s.locals
    simp only [tls,sumN,thB]
    omega
 have h1:=h1 x.mutexes
 have h2:=h2 x.shared
 have h3:=h3 x.threads
 unfold pgB at hx
 omega
theorem nmP_len (p:Pg):(nmP p).length≤pwt p:=by
 have:=nmTs_len p.threads
 simp only [nmP,pwt,List.length_append,List.length_map]
 omega
theorem ccheck_pg (p:Pg) (cs:List Value) (w:World) (hp:PgAt (·<w.heap.size) w p cs) (ht:Tab w) (hB:pgB p≤80000000) (hR:pgR p):
  Calls Tryz.prog 44 #[.agg cs.toArray] w fun r w'=>r = .returned (spV (checkD p))∧Below w.heap.size w w':=by
 obtain ⟨pa,pcap,xs,pb,pcap2,ys,pd,pcap3,zs,rfl,hxs,hxt,hys,hyt,hzs,hzt⟩:=hp
 have hwp:=pwt_pgB p
 have hpw:pwt p=p.shared.length+p.mutexes.length+thws p.threads:=rfl
 have:=thws_len p.threads
 exact ccheck_any p w rfl rfl rfl (by omega) hxs hxt hys hyt hzs hzt (by omega) ⟨by omega,by omega⟩ ht hB hR
end
section
set_option maxRecDepth 100000 in
theorem sz_of {vs:List Value} (h:Sy.okTrue (Sy.reckonT Tryz.prog syIT 20000 1 evTab 40 (vs.map Sy.AV.v))=true) (w:World) (ht:Tab w):Calls Tryz.prog 40 vs.toArray w fun e w'=>e = .returned (.bool true)∧Below w.heap.size w w':=by
 obtain ⟨γ,hc⟩:=Sy.reckonT_ret sy_mixed sy_fineT sy_glob Tryz.func40 (by kernel_rfl) w (fun _=>Sy.LR.vs vs) (fun e=>by rw [e] at h;cases h) (tab_at ht) ht
 exact hc.mono fun e w' hR=>let ⟨h1,h2⟩:=Sy.ret_true h hR;⟨h1,h2.below⟩
def szArgs0:List Value:=[.string ⟨#[115,104,97,114,101,100,32,120,32,105,110,116,59,32,116,104,114,101,97,100,32,116,32,123,32,120,32,61,32,49,59,32,125]⟩,.int .i64 0,.int .i64 (-1),.int .i64 (-1)]
set_option maxRecDepth 100000 in
theorem szRun0:Sy.okTrue (Sy.reckonT Tryz.prog syIT 20000 1 evTab 40 (szArgs0.map Sy.AV.v))=true:=by kernel_rfl
theorem sz0 (w:World) (ht:Tab w):Calls Tryz.prog 40 szArgs0.toArray w fun e w'=>e = .returned (.bool true)∧Below w.heap.size w w':=sz_of szRun0 w ht
def szArgs1:List Value:=[.string ⟨#[115,104,97,114,101,100,32,120,32,105,110,116,59,32,116,104,114,101,97,100,32,116,32,123,32,120,32,61,32,120,32,43,32,49,59,32,125]⟩,.int .i64 170,.int .i64 0,.int .i64 0]
set_option maxRecDepth 100000 in
theorem szRun1:Sy.okTrue (Sy.reckonT Tryz.prog syIT 20000 1 evTab 40 (szArgs1.map Sy.AV.v))=true:=by kernel_rfl
theorem sz1 (w:World) (ht:Tab w):Calls Tryz.prog 40 szArgs1.toArray w fun e w'=>e = .returned (.bool true)∧Below w.heap.size w w':=sz_of szRun1 w ht
def szArgs2:List Value:=[.string ⟨#[116,104,114,101,97,100,32,116,32,123,32,108,111,99,97,108,32,105,32,105,110,116,59,32,105,102,32,116,114,117,101,32,123,32,105,32,61,32,49,46,53,59,32,125,32,125]⟩,.int .i64 9,.int .i64 0,.int .i64 1]
set_option maxRecDepth 100000 in
theorem szRun2:Sy.okTrue (Sy.reckonT Tryz.prog syIT 20000 1 evTab 40 (szArgs2.map Sy.AV.v))=true:=by kernel_rfl
theorem sz2 (w:World) (ht:Tab w):Calls Tryz.prog 40 szArgs2.toArray w fun e w'=>e = .returned (.bool true)∧Below w.heap.size w w':=sz_of szRun2 w ht
end
section
set_option maxRecDepth 100000
def szArgs3:List Value:=[.string ⟨#[116,104,114,101,97,100,32,116,32,123,32,108,111,99,107,32,109,59,32,121,32,61,32,49,59,32,125]⟩,.int .i64 6,.int .i64 0,.int .i64 0]
theorem szRun3:Sy.okTrue (Sy.reckonT Tryz.prog syIT 20000 1 evTab 40 (szArgs3.map Sy.AV.v))=true:=by kernel_rfl
theorem sz3 (w:World) (ht:Tab w):Calls Tryz.prog 40 szArgs3.toArray w fun e w'=>e = .returned (.bool true)∧Below w.heap.size w w':=sz_of szRun3 w ht
def szArgs4:List Value:=[.string ⟨#[109,117,116,101,120,32,97,59,32,109,117,116,101,120,32,97,59,32,116,104,114,101,97,100,32,116,32,123,32,115,107,105,112,59,32,125]⟩,.int .i64 7,.int .i64 (-1),.int .i64 (-1)]
theorem szRun4:Sy.okTrue (Sy.reckonT Tryz.prog syIT 20000 1 evTab 40 (szArgs4.map Sy.AV.v))=true:=by kernel_rfl
theorem sz4 (w:World) (ht:Tab w):Calls Tryz.prog 40 szArgs4.toArray w fun e w'=>e = .returned (.bool true)∧Below w.heap.size w w':=sz_of szRun4 w ht
def szArgs5:List Value:=[.string ⟨#[115,104,97,114,101,100,32,120,32,105,110,116,59,32,116,104,114,101,97,100,32,116,32,123,32,108,111,99,97,108,32,120,32,105,110,116,59,32,125]⟩,.int .i64 7,.int .i64 0,.int .i64 (-1)]
theorem szRun5:Sy.okTrue (Sy.reckonT Tryz.prog syIT 20000 1 evTab 40 (szArgs5.map Sy.AV.v))=true:=by kernel_rfl
theorem sz5 (w:World) (ht:Tab w):Calls Tryz.prog 40 szArgs5.toArray w fun e w'=>e = .returned (.bool true)∧Below w.heap.size w w':=sz_of szRun5 w ht
def szArgs6:List Value:=[.string ⟨#[]⟩,.int .i64 3,.int .i64 (-1),.int .i64 (-1)]
theorem szRun6:Sy.okTrue (Sy.reckonT Tryz.prog syIT 20000 1 evTab 40 (szArgs6.map Sy.AV.v))=true:=by kernel_rfl
theorem sz6 (w:World) (ht:Tab w):Calls Tryz.prog 40 szArgs6.toArray w fun e w'=>e = .returned (.bool true)∧Below w.heap.size w w':=sz_of szRun6 w ht
open Go.Sy
theorem awake07_any (w:World) (ht:Tab w):CB 39 #[] w (.bool true):=by
 refine eN [] Tryz.func39 (fun γ0 hγ0=>?_)
 refine rk ?_
 refine gX szArgs0 (.bool true) (fun W hk=>sz0 W (ht.below hk.below)) ?_
 refine rk ?_
 refine gX szArgs1 (.bool true) (fun W hk=>sz1 W (ht.below hk.below)) ?_
 refine rk ?_
 exact gR (.bool true) (fun W hk=>⟨rfl,hk.below⟩)
theorem checkKnown_any (w:World) (ht:Tab w):CB 9 #[] w (.bool true):=by
 refine eN [] Tryz.func9 (fun γ0 hγ0=>?_)
 refine rk ?_
 refine gX [] (.bool true) (fun W hk=>awake07_any W (ht.below hk.below)) ?_
 refine rk ?_
 refine gX szArgs2 (.bool true) (fun W hk=>sz2 W (ht.below hk.below)) ?_
 refine rk ?_
 refine gX szArgs3 (.bool true) (fun W hk=>sz3 W (ht.below hk.below)) ?_
 refine rk ?_
 refine gX szArgs4 (.bool true) (fun W hk=>sz4 W (ht.below hk.below)) ?_
 refine rk ?_
 refine gX szArgs5 (.bool true) (fun W hk=>sz5 W (ht.below hk.below)) ?_
 refine rk ?_
 refine gX szArgs6 (.bool true) (fun W hk=>sz6 W (ht.below hk.below)) ?_
 refine rk ?_
 exact gR (.bool true) (fun W hk=>⟨rfl,hk.below⟩)
end
section
set_option maxRecDepth 100000
mutual
theorem nmE_short:∀ (e:Ex) (s:List UInt8),s∈nmE e→s.length≤exB e
 | .mk op ty bits name kids,s,h=>by
   simp only [nmE,List.mem_append] at h
   simp only [exB]
   rcases h with h | h
   · split at h
     · obtain rfl:s=name:=by simpa using h
       omega
     · simp at h
   · have:=nmEs_short kids s h
     omega
theorem nmEs_short:∀ (l:List Ex) (s:List UInt8),s∈nmEs l→s.length≤exBs l
 | [],s,h=>by simp [nmEs] at h
 | e::l,s,h=>by
   simp only [nmEs,List.mem_append] at h
   simp only [exBs]
   rcases h with h | h
   · have:=nmE_short e s h
     omega
   · have:=nmEs_short l s h
     omega
end
theorem nmS_short {x:St} {s:List UInt8} (h:s∈nmS x):s.length≤stB x:=by
 cases x with
 | mk k n e b l=>
   simp only [nmS,List.mem_cons] at h
   simp only [stB]
   rcases h with rfl | h
   · omega
   · have:=nmE_short e s h
     omega
theorem nmP_short {p:Pg} {s:List UInt8} (h:s∈nmP p):s.length≤pgB p:=by
 simp only [nmP,List.mem_append,List.mem_map,List.mem_flatMap] at h
 simp only [pgB]
 rcases h with ⟨v,hv,rfl⟩ | h | ⟨t,ht,h⟩
 · have:=sumN_mem (μ:=vrB) hv
   simp only [vrB] at this
   omega
 · have:=sumN_mem (μ:=txB) h
   simp only [txB] at this
   omega
 · have h1:=sumN_mem (μ:=thB) ht
   simp only [nmT,List.mem_cons,List.mem_append,List.mem_map,List.mem_flatMap] at h
   simp only [thB] at h1
   rcases h with rfl | ⟨v,hv,rfl⟩ | ⟨x,hx,h⟩
   · omega
   · have:=sumN_mem (μ:=vrB) hv
     simp only [vrB] at this
     omega
   · have h2:=nmS_short h
     have h3:=(flatL_swt 0 _ x.1 x.2 hx).2
     omega
open Go.Sy
theorem din_any (L:List (List UInt8)) (s:List UInt8) (a:Option Addr) (n cap:Nat) (w:World) (hn:n=L.length) (hbd:n≤1000000000000) (hsl:SlAt (·<w.heap.size) w a n 1 (strsV L)):
  CB 43 #[.slice a n cap,nT s] w (.bool (decide (s∈L))):=by
 refine eN [.slice a n cap,nT s] Tryz.func43 (fun γ0 hγ0=>?_)
 refine rk ?_
 refine good_toLp ?_
 refine good_loopI (fun i:List (List UInt8)×List (List UInt8)=>i.2.length) (fun i=>L=i.1++i.2∧¬ s∈i.1) (fun i=>⟨mkT [(0,vL a n cap),(1,vT s),(5,vI (i.1.length:Int))],mkH [],gz,[]⟩)
  ([],L) ⟨rfl,by simp⟩ (by kernel_rfl)
  (fun h=>gU _ [(0,vL a n cap),(1,vT s),(5,vI (([]:List (List UInt8)).length:Int))] [] gz hγ0 h) ?_
 rintro ⟨l1,l2⟩ ⟨hsp,hno⟩ ih
 have hsp:L=l1++l2:=hsp
 have hno:¬ s∈l1:=hno
 have hn2:n=l1.length+l2.length:=by rw [hn,hsp,List.length_append]
 refine rk ?_
 cases l2 with
 | nil=>
   have hn3:n=l1.length:=by rw [hn2];simp
   have hl1:l1=L:=by rw [hsp];simp
   refine ky (l1.length:Int) (n:Int) (by omega) ?_
   refine rs [] 60 2 ?_
   exact gR (.bool false) (fun W hk=>⟨by rw [← hl1,decide_eq_false hno],hk.below⟩)
 | cons x l3=>
   have hin:l1.length<n:=by rw [hn2,List.length_cons];omega
   have hc:(strsV L)[l1.length*1+0]?=some (nT x):=by rw [hsp];simp [strsV]
   refine kx (l1.length:Int) (n:Int) (by omega) ?_
   refine rk ?_
   refine gI 23 9 cap l1.length hsl hin ?_
   refine rk ?_
   refine gL 9 (nT x) l1.length 0 hsl hc ?_
   refine rk ?_
   by_cases hq:x=s
   ·
    refine gK true (b:=bEqL x s) (by rw [bEqL_eq];simp [hq]) ?_
    refine rs [] 60 2 ?_
    exact gR (.bool true) (fun W hk=>⟨by rw [decide_eq_true (by rw [hsp,hq];simp)],hk.below⟩)
   refine gK false (b:=bEqL x s) (by rw [bEqL_eq];simp [hq]) ?_
   refine rs [] 60 2 ?_
   refine gJ 5 l1 x (by omega) ?_
   exact gU _ [(0,vL a n cap),(1,vT s),(5,vI ((l1++[x]).length:Int))] [] gz hγ0 (ih (l1++[x],l3) ⟨by show L=(l1++[_])++l3;rw [hsp];simp,fun h=>(List.mem_append.1 h).elim hno (fun h=>hq (List.mem_singleton.1 h).symm)⟩ lS1)
theorem checkNames_any (p:Pg) (wh:Int) (ot:List UInt8) (w:World) (ht:Tab w) (hbd:pgB p+(ot.length+1)≤1048576) (hpR:pgR p)
  {pa pb pd:Option Addr} {vn qm qt qc qd qe:Nat} {xs ys zs:List Value} (hp:PgAt (·<w.heap.size) w p [.slice pa vn qc,.slice pb qm qd,.slice pd qt qe]) (hpns:vn=p.shared.length) (hpnm:qm=p.mutexes.length) (hpnt:qt=p.threads.length)
  (hxs:SlAt (·<w.heap.size) w pa vn 3 xs) (hxt:LsAt VrAt p.shared xs) (hys:SlAt (·<w.heap.size) w pb qm 1 ys) (hyt:LsAt TxAt p.mutexes ys) (hzs:SlAt (·<w.heap.size) w pd qt 3 zs) (hzt:LsAt (ThAt (·<w.heap.size) w) p.threads zs):
  CB 10 #[.agg #[.slice pa vn qc,.slice pb qm qd,.slice pd qt qe],nI wh,nT ot] w (.bool true):=by
 have hwp:=pwt_pgB p
 have hpw:pwt p=vn+qm+thws p.threads:=by rw [hpns,hpnm];rfl
 have hthl:=thws_len p.threads
 refine eN [.agg #[.slice pa vn qc,.slice pb qm qd,.slice pd qt qe],nI wh,nT ot] Tryz.func10 (fun γ0 hγ0=>?_)
 have hγ0:∀ b,gz≤b→γ0 b=none:=hγ0
 refine rk ?_
 refine gX [] (.bool true) (fun W hk=>checkKnown_any W (ht.below hk.below)) ?_
 refine rk ?_
 refine good_callM (sy_cx _ _) [.agg #[.slice pa vn qc,.slice pb qm qd,.slice pd qt qe]] (by kernel_rfl) (by kernel_rfl) (by kernel_rfl) (Pr:=fun W r W'=>NmPr (nmP p) W r W') (fun W hk=>dallnames_any p W hpns hpnm hpnt (by omega) ((hxs.keep hk).mono (kU hk)) hxt ((hys.keep hk).mono (kU hk)) hyt ((hzs.keep hk).mono (kU hk)) (hzt.imp fun _ _ h=>h.keep hk (kU hk)) (by omega) ⟨by omega,by omega⟩) ?_
 rintro V r w1 B1 hkV ⟨al,cl,rfl,hsl⟩ hbl hk01 hB01 hBn1 hB1
 obtain ⟨nl,hnl⟩:∃ n,n=(nmP p).length:=⟨_,rfl⟩
 rw [← hnl] at hsl ⊢
 have hnlb:nl≤1048576:=by have:=nmP_len p;omega
 have hsl1:SlAt B1 w1 al nl 1 (strsV (nmP p)):=hsl.mono fun k h=>hBn1 k h.1 h.2
 have hK:∀ W,Keep B1 w1 W→Keep (·<w.heap.size) w W:=fun W hk=>hk01.trans (hk.mono hB01)
 have hPP:∀ W,Keep B1 w1 W→PgAt (·<W.heap.size) W p [.slice pa vn qc,.slice pb qm qd,.slice pd qt qe]:=fun W hk=>hp.keep (hK W hk) fun k h=>Nat.lt_of_lt_of_le h (hK W hk).size
 clear hsl hbl hkV
 refine rs [16] 60 0 ?_
 rcases Bool.eq_false_or_eq_true (lrg p) with hL | hL
 ·
  refine gX [.agg #[.slice pa vn qc,.slice pb qm qd,.slice pd qt qe]] (.bool true) (fun W hk=>by rw [← hL];exact large_any p [.slice pa vn qc,.slice pb qm qd,.slice pd qt qe] W (by omega) (pg_namesC (by omega)) (hPP W hk)) ?_
  refine rs [] 60 2 ?_
  exact gR (.bool true) (fun W hk=>⟨rfl,(hK W hk).below⟩)
 refine gX [.agg #[.slice pa vn qc,.slice pb qm qd,.slice pd qt qe]] (.bool false) (fun W hk=>by rw [← hL];exact large_any p [.slice pa vn qc,.slice pb qm qd,.slice pd qt qe] W (by omega) (pg_namesC (by omega)) (hPP W hk)) ?_
 refine rs [21] 60 0 ?_
 by_cases h0:nl=0
 ·
  refine gS 18 (x := .bool (intEq (nl:Int) 0)) (.bool true) (by rw [eq_t (by omega)]) ?_
  refine gS 19 (x := .bool (intEq (nl:Int) 0)) (.bool true) (by rw [eq_t (by omega)]) ?_
  refine gS 20 (x := .bool (intEq (nl:Int) 0)) (.bool true) (by rw [eq_t (by omega)]) ?_
  refine rs [] 60 2 ?_
  exact gR (.bool true) (fun W hk=>⟨rfl,(hK W hk).below⟩)
 refine gS 18 (x := .bool (intEq (nl:Int) 0)) (.bool false) (by rw [eq_f (by omega)]) ?_
 refine gS 19 (x := .bool (intEq (nl:Int) 0)) (.bool false) (by rw [eq_f (by omega)]) ?_
 refine gS 20 (x := .bool (intEq (nl:Int) 0)) (.bool false) (by rw [eq_f (by omega)]) ?_
 refine rk ?_
 rcases Bool.eq_false_or_eq_true (nameB ot) with hO | hO
 rotate_left
 ·
  refine gX [nT ot] (.bool false) (fun W hk=>by rw [← hO];exact nameR_any ot W (by unfold maxLen;omega)) ?_
  refine rs [] 60 2 ?_
  exact gR (.bool true) (fun W hk=>⟨rfl,(hK W hk).below⟩)
 refine gX [nT ot] (.bool true) (fun W hk=>by rw [← hO];exact nameR_any ot W (by unfold maxLen;omega)) ?_
 refine rk ?_
 refine gX [.slice al nl cl,nT ot] (.bool (decide (ot∈nmP p))) (fun W hk=>din_any (nmP p) ot al nl cl W hnl (by omega) ((hsl1.keep hk).mono fun k h=>Nat.lt_of_lt_of_le (hB1 k h) hk.size)) ?_
 refine rk ?_
 by_cases hI:ot∈nmP p
 ·
  refine gK true (b:=decide (ot∈nmP p)) (decide_eq_true hI) ?_
  refine rs [] 60 2 ?_
  exact gR (.bool true) (fun W hk=>⟨rfl,(hK W hk).below⟩)
 refine gK false (b:=decide (ot∈nmP p)) (decide_eq_false hI) ?_
 refine rs [35] 60 0 ?_
 refine gV (nI (wh.tmod (nl:Int))) (S:=(do eqGuard .rem 3 (.tmp 32) (.tmp 34) (nI (wh)) (nI ((nl:Int)));binOp .rem 3 (nI (wh)) (nI ((nl:Int))))) (fun W _=>run_rem _ _ wh (nl:Int) (by omega) (by omega) W) ?_
 refine rs [41] 60 0 ?_
 have hr1:=Int.tmod_lt_of_pos wh (show (0:Int)<(nl:Int) by omega)
 have hr2:=Int.lt_tmod_of_pos wh (show (0:Int)<(nl:Int) by omega)
 refine gS 38 (x:=nI (wrapF .i64 (wh.tmod (nl:Int)+(nl:Int)))) (nI (wh.tmod (nl:Int)+(nl:Int))) (by rw [wr64 (n:=wh.tmod (nl:Int)+(nl:Int)) (by omega) (by omega)];skip) ?_
 obtain ⟨ix,hix⟩:∃ ix:Nat,(ix:Int)=(wh.tmod (nl:Int)+(nl:Int)).tmod (nl:Int):=⟨((wh.tmod (nl:Int)+(nl:Int)).tmod (nl:Int)).toNat,Int.toNat_of_nonneg (Int.tmod_nonneg _ (by omega))⟩
 have hin:ix<nl:=by have:=Int.tmod_lt_of_pos (wh.tmod (nl:Int)+(nl:Int)) (show (0:Int)<(nl:Int) by omega);omega
 have hix2:ix<(nmP p).length:=by omega
 obtain ⟨fr,hfr⟩:∃ fr,fr=(nmP p)[ix]:=⟨_,rfl⟩
 have hfrm:fr∈nmP p:=by rw [hfr];exact List.getElem_mem _
 have hcx:(strsV (nmP p))[ix*1+0]?=some (nT fr):=by
  rw [Nat.mul_one,Nat.add_zero]
  unfold strsV
  rw [List.getElem?_map,List.getElem?_eq_getElem hix2,hfr]
  rfl
 refine gV (nI (ix:Int)) (S:=(do eqGuard .rem 3 (.tmp 38) (.tmp 40) (nI (wh.tmod (nl:Int)+(nl:Int))) (nI ((nl:Int)));binOp .rem 3 (nI (wh.tmod (nl:Int)+(nl:Int))) (nI ((nl:Int))))) (fun W _=>by rw [hix];exact run_rem _ _ _ (nl:Int) (by omega) (by omega) W) ?_
 refine rk ?_
 refine gI 23 9 cl ix hsl1 hin ?_
 refine rk ?_
 refine gL 9 (nT fr) ix 0 hsl1 hcx ?_
 refine rk ?_
 have hfrl:fr.length≤9223372036854775807:=Nat.le_trans (nmP_short hfrm) (by omega)
 rcases Bool.eq_false_or_eq_true (nameB fr) with hFr | hFr
 rotate_left
 ·
  refine gX [nT fr] (.bool false) (fun W hk=>by rw [← hFr];exact nameR_any fr W (by unfold maxLen;omega)) ?_
  refine rs [] 60 2 ?_
  exact gR (.bool true) (fun W hk=>⟨rfl,(hK W hk).below⟩)
 refine gX [nT fr] (.bool true) (fun W hk=>by rw [← hFr];exact nameR_any fr W (by unfold maxLen;omega)) ?_
 refine rs [] 60 1 ?_
 refine good_lock2 [gz] (gz+1) (by kernel_rfl) ?_
 intro γ2 B2 w2 hle2 hγ2 hB12 hB2 hk12 hLk2
 have hL2:∀ b,hasNat b [gz]=true→∃ p,γ2 b=some p∧B2 p.1:=fun b hb=>let ⟨p,h1,h2,_⟩:=hLk2 b hb;⟨p,h1,h2⟩
 have hK2:∀ W,Keep B2 w2 W→Keep B1 w1 W:=fun W hk=>hk12.trans (hk.mono hB12)
 refine good_plan sy_mixed (.take 0 (.take 1 (.take 2 (.take 3 (.take 4 (.take 7 (.run 5 (.run 6 (.run 8 (.take 9 (.take 10 .done))))))))))) 11 (by kernel_rfl) ?_
 refine p_takes [gz] 6 (Bs:=B2) (ws:=w2) (by kernel_rfl) (fun _ h=>h) hL2 ?_
 refine pR (Keep B2 w2) (fun _ h=>h) ?_
 refine good_callM (sy_cx _ _) [.agg #[.slice pa vn qc,.slice pb qm qd,.slice pd qt qe],nT fr,nT ot] (by kernel_rfl) (by kernel_rfl) (by kernel_rfl) (Pr:=fun W r W'=>RnPr (phi fr ot) p W r W') (fun W hk=>drenamed_any fr ot p W (by omega) (hPP W (hK2 W hk))) ?_
 rintro V3 r3 w3 B3 hkV3 ⟨ds,rfl,hrn⟩ hbl3 hk23 hB23 hBn3 hB3
 have hS3:∀ W,Keep B3 w3 W→Keep B2 w2 W:=fun W hk=>hk23.trans (hk.mono hB23)
 have hrn3:PgAt B3 w3 (rnP (phi fr ot) p) ds:=hrn.keep (Keep.refl _ _ |>.mono fun k h=>h) fun k h=>hBn3 k h.1 h.2
 have hok:=phi_ok hFr hO
 have heq:checkD (rnP (phi fr ot) p)=checkD p:=checkD_rn hok (phi_inj fr ot) hpR (fun n hn e=>hI (e ▸ hn))
 obtain ⟨sp,hspd⟩:∃ s,s=checkD p:=⟨_,rfl⟩
 obtain ⟨ra,rcap,rxs,rb,rcap2,rys,rd,rcap3,rzs,rfl,_⟩:=id hrn3
 have hrB:=rnP_B (a:=fr) (nameB_len hO) p
 obtain ⟨rn,hrnd⟩:∃ q,q=rnP (phi fr ot) p:=⟨_,rfl⟩
 rw [← hrnd] at hrn3 heq hrB
 have hrR:pgR rn:=by rw [hrnd];exact rnP_R hpR
 obtain ⟨n1,hn1⟩:∃ n,n=rn.shared.length:=⟨_,rfl⟩
 obtain ⟨n2,hn2⟩:∃ n,n=rn.mutexes.length:=⟨_,rfl⟩
 obtain ⟨n3,hn3⟩:∃ n,n=rn.threads.length:=⟨_,rfl⟩
 rw [← hrnd,← hn1,← hn2,← hn3]
 rw [← hn1,← hn2,← hn3] at hrn3
 refine rk ?_
 refine pR (Keep B2 w2) hS3 ?_
 refine gX [.agg #[.slice ra n1 rcap,.slice rb n2 rcap2,.slice rd n3 rcap3]] (spV sp) (fun W hk=>by rw [hspd,← heq];exact ccheck_pg rn [.slice ra n1 rcap,.slice rb n2 rcap2,.slice rd n3 rcap3] W (hrn3.keep hk fun k h=>Nat.lt_of_lt_of_le (hB3 k h) hk.size) (ht.below (hK W (hK2 W (hS3 W hk))).below) (by omega) hrR) ?_
 refine rk ?_
 refine pR (Keep B2 w2) hS3 ?_
 refine gX [.agg #[.slice pa vn qc,.slice pb qm qd,.slice pd qt qe]] (spV sp) (fun W hk=>by rw [hspd];exact ccheck_pg p [.slice pa vn qc,.slice pb qm qd,.slice pd qt qe] W (hPP W (hK2 W (hS3 W hk))) (ht.below (hK W (hK2 W (hS3 W hk))).below) (by omega) hpR) ?_
 refine rk ?_
 refine p_val (.bool true) (S:=(do eqGuard .eql 80 (.tmp 54) (.tmp 56) (spV sp) (spV sp);binOp .eql 80 (spV sp) (spV sp))) (Bs:=B2) (ws:=w2) (by kernel_rfl) (by kernel_rfl) hS3 (fun W _=>run_eql_spot _ _ sp W) ?_
 refine p_takes [gz] 1 (Bs:=B2) (ws:=w2) (by kernel_rfl) hS3 hL2 ?_
 refine p_done (by kernel_rfl) ?_ (Keep B2 w2) (by kernel_rfl) hS3
 refine rs [] 60 2 ?_
 exact gR (.bool true) (fun W hk=>⟨rfl,(hK W (hK2 W (hS3 W hk))).below⟩)
theorem checkNames_walk (w:World) (ht:Tab w) (p:Pg) (c0:List Value) (o0:PgAt (·<w.heap.size) w p c0∧pgR p) (wh:Int) (w1:(Lit.int .i64 wh).wf=true) (ot:List UInt8) (w2:ot.length≤9223372036854775807) (hbd:pgB p+(ot.length+1)≤1048576):
  CB 10 #[.agg c0.toArray,.int .i64 wh,.string (str ot)] w (.bool true):=by
 obtain ⟨hp,hpR⟩:=o0
 have hp0:=hp
 obtain ⟨pa,qc,xs,pb,qd,ys,pd,qe,zs,rfl,hxs,hxt,hys,hyt,hzs,hzt⟩:=hp0
 exact checkNames_any p wh ot w ht hbd hpR hp rfl rfl rfl hxs hxt hys hyt hzs hzt
end
end Go.Proofs.YtiacalnkmnckjaaGreatDoor
