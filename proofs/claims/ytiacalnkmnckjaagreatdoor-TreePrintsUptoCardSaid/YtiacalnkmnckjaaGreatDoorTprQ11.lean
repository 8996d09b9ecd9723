/- Texts of this proof, one behind the other. Conditions: those in each theorem. -/
import Derived.Test.YtiacalnkmnckjaaGreatDoorTprQ10
import Derived.Test.YtiacalnkmnckjaaGreatDoorTprQ8
import Derived.Test.YtiacalnkmnckjaaGreatDoorTprQ2
import Derived.Test.YtiacalnkmnckjaaGreatDoorTprQ1
import Derived.Test.YtiacalnkmnckjaaGreatDoorTprQ9
set_option linter.unusedVariables false
set_option linter.unusedSimpArgs false
section
namespace Go.Proofs.YtiacalnkmnckjaaGreatDoor
open Go.RowKit Go.As
def PgPr (p:Pg) (w:World) (v:Value) (w':World):Prop:=∃ ds:List Value,v = .agg ds.toArray∧PgAt (NewIn w w') w' p ds
theorem VR_agg3 {γ:Sy.Gm} {a b:Value} {e:Sy.AV} {v:Value} (h:Sy.VR γ (.agg [.v a,.v b,e]) v):∃ x,v = .agg #[a,b,x]∧Sy.VR γ e x:=by
 cases h with
 | agg hl hh=>
   rename_i vs
   obtain ⟨l⟩:=vs
   match l,hl with
   | [x1,x2,x3],_=>
     have h1:=hh 0 _ x1 rfl rfl
     have h2:=hh 1 _ x2 rfl rfl
     cases h1;cases h2
     exact ⟨x3,rfl,hh 2 _ x3 rfl rfl⟩
def LInv {α:Type} (At:(Nat→Prop)→World→α→List Value→Prop) (e sz base:Nat) (Bq:Nat→Prop) (wq:World) (L:List α) (b:Nat) (i:CI α) (B:Nat→Prop) (w1:World):Prop:=
 L=i.l1++i.l2∧Sy.Keep Bq wq w1∧(∀ k,Bq k→B k)∧(∀ k,B k→k<w1.heap.size)∧LsAt (At (fun k=>B k∧base≤k) w1) i.l1 i.xs∧Sy.RowAt e sz b i.l1.length i.xs i.X i.ob
open Go.Sy in
set_option maxRecDepth 100000 in
theorem copyProgram_any (p:Pg) (cs:List Value) (w:World) (hbd0:pwt p≤1000000000000) (hp:PgAt (·<w.heap.size) w p cs):
  Calls Tryz.prog 14 #[.agg cs.toArray] w fun r w'=>∃ v,r = .returned v∧PgPr p w v w'∧Below w.heap.size w w':=by
 obtain ⟨a,cap,xs,b,cap2,ys,d,cap3,zs,rfl,hxs,hxt,hys,hyt,hzs,hzt⟩:=hp
 obtain ⟨ns,hns⟩:∃ n,n=p.shared.length:=⟨_,rfl⟩
 obtain ⟨nm,hnm⟩:∃ n,n=p.mutexes.length:=⟨_,rfl⟩
 obtain ⟨nt,hnt⟩:∃ n,n=p.threads.length:=⟨_,rfl⟩
 have hbd:ns+nm+thws p.threads≤1000000000000:=by rw [hns,hnm];exact hbd0
 have hnl:=thws_len p.threads
 rw [← hns] at hxs ⊢
 rw [← hnm] at hys ⊢
 rw [← hnt] at hzs ⊢
 refine Sy.enter (vs:=[.agg #[.slice a ns cap,.slice b nm cap2,.slice d nt cap3]]) sy_fine Tryz.func14 rfl (fun γ=>norms_LR _) rfl (fun γ0 hγ0=>?_)
 refine rk ?_
 refine good_lock [gz] (gz+1) (by kernel_rfl) (fun b hb=>hγ0 b (Nat.le_trans (Nat.le_add_right _ 1) hb)) ?_
 intro γ1 B1 w1 hle1 hγ1 hB01 hB1 hk01 hLk
 have hL1:∀ b,hasNat b [gz]=true→∃ p,γ1 b=some p∧B1 p.1:=fun b hb=>let ⟨p,h1,h2,_⟩:=hLk b hb;⟨p,h1,h2⟩
 have hxs1:=(hxs.keep hk01).mono hB01
 have hys1:=(hys.keep hk01).mono hB01
 refine good_plan sy_mixed (.take 1 (.take 2 (.take 4 (.take 5 (.alt (.run 8 (.run 0 (.run 3 (.run 6 (.take 7 .done))))) (.run 0 (.alt (.run 8 (.run 3 (.run 6 (.take 7 .done)))) (.run 3 (.alt (.run 8 (.run 6 (.take 7 .done))) (.run 6 (.take 7 (.run 8 .done)))))))))))) 9 (by kernel_rfl) ?_
 refine p_takes [gz] 4 (Bs:=B1) (ws:=w1) (by kernel_rfl) (fun _ h=>h) hL1 ?_
 refine p_alt (by kernel_rfl) ?a0 ?b0
 case' a0=>
  refine pR (Keep B1 w1) (fun _ h=>h) ?_
  refine rk ?_
  refine pR (Keep B1 w1) (fun _ h=>h) ?_
  refine rk ?_
  refine pR (Keep B1 w1) (fun _ h=>h) ?_
  refine good_fix 6 (gz+3) 3 (by kernel_rfl) (by kernel_rfl) (by kernel_rfl) (fun k=>?_)
  refine good_appM (.slice (some ⟨k,0,none⟩) 0 0) (.slice a ns cap) [22,22] (by kernel_rfl) (fun W hk=>app_none (e:=67) (sz:=3) (bytes:=32) (by kernel_rfl) (by kernel_rfl) (by kernel_rfl) hxs1 (by omega) (by unfold maxLen;omega) W hk) ?_
  rintro wA r w2 B2 hkA ⟨a2,cap22,rfl,hsl2⟩ hbl2 hk12 hB12 hBn2 hB2
  have hS2:∀ W,Keep B2 w2 W→Keep B1 w1 W:=fun W hk=>hk12.trans (hk.mono hB12)
  refine rk ?_
  refine pR (Keep B1 w1) hS2 ?_
  have hys2:=fun W (hk:Keep B2 w2 W)=>((hys.keep (hk01.trans ((hS2 W hk).mono hB01))).mono (fun k h=>Nat.lt_of_lt_of_le h (hk01.trans ((hS2 W hk).mono hB01)).size))
  refine gM [.slice b nm cap2] (fun W hk=>copyTexts_any b nm cap2 ys W (by omega) (hys2 W hk)) ?_
  rintro wB r w3 B3 hkB ⟨a3,cap33,rfl,hsl3⟩ hbl3 hk23 hB23 hBn3 hB3
  have hS3:∀ W,Keep B3 w3 W→Keep B1 w1 W:=fun W hk=>hS2 W (hk23.trans (hk.mono hB23))
  refine rk ?_
  refine p_takes [gz] 1 (Bs:=B1) (ws:=w1) (by kernel_rfl) hS3 hL1 ?_
  have v2:=True.intro
 case' b0=>
  refine pR (Keep B1 w1) (fun _ h=>h) ?_
  refine rk ?_
  refine p_alt (by kernel_rfl) ?a1 ?b1
  case' a1=>
   refine pR (Keep B1 w1) (fun _ h=>h) ?_
   refine rk ?_
   refine pR (Keep B1 w1) (fun _ h=>h) ?_
   refine good_fix 6 (gz+2) 3 (by kernel_rfl) (by kernel_rfl) (by kernel_rfl) (fun k=>?_)
   refine good_appM (.slice (some ⟨k,0,none⟩) 0 0) (.slice a ns cap) [22,22] (by kernel_rfl) (fun W hk=>app_none (e:=67) (sz:=3) (bytes:=32) (by kernel_rfl) (by kernel_rfl) (by kernel_rfl) hxs1 (by omega) (by unfold maxLen;omega) W hk) ?_
   rintro wA r w2 B2 hkA ⟨a2,cap22,rfl,hsl2⟩ hbl2 hk12 hB12 hBn2 hB2
   have hS2:∀ W,Keep B2 w2 W→Keep B1 w1 W:=fun W hk=>hk12.trans (hk.mono hB12)
   refine rk ?_
   refine pR (Keep B1 w1) hS2 ?_
   have hys2:=fun W (hk:Keep B2 w2 W)=>((hys.keep (hk01.trans ((hS2 W hk).mono hB01))).mono (fun k h=>Nat.lt_of_lt_of_le h (hk01.trans ((hS2 W hk).mono hB01)).size))
   refine gM [.slice b nm cap2] (fun W hk=>copyTexts_any b nm cap2 ys W (by omega) (hys2 W hk)) ?_
   rintro wB r w3 B3 hkB ⟨a3,cap33,rfl,hsl3⟩ hbl3 hk23 hB23 hBn3 hB3
   have hS3:∀ W,Keep B3 w3 W→Keep B1 w1 W:=fun W hk=>hS2 W (hk23.trans (hk.mono hB23))
   refine rk ?_
   refine p_takes [gz] 1 (Bs:=B1) (ws:=w1) (by kernel_rfl) hS3 hL1 ?_
   have v3:=True.intro
  case' b1=>
   refine pR (Keep B1 w1) (fun _ h=>h) ?_
   refine good_fix 6 (gz+2) 3 (by kernel_rfl) (by kernel_rfl) (by kernel_rfl) (fun k=>?_)
   refine good_appM (.slice (some ⟨k,0,none⟩) 0 0) (.slice a ns cap) [22,22] (by kernel_rfl) (fun W hk=>app_none (e:=67) (sz:=3) (bytes:=32) (by kernel_rfl) (by kernel_rfl) (by kernel_rfl) hxs1 (by omega) (by unfold maxLen;omega) W hk) ?_
   rintro wA r w2 B2 hkA ⟨a2,cap22,rfl,hsl2⟩ hbl2 hk12 hB12 hBn2 hB2
   have hS2:∀ W,Keep B2 w2 W→Keep B1 w1 W:=fun W hk=>hk12.trans (hk.mono hB12)
   refine rk ?_
   refine p_alt (by kernel_rfl) ?a2 ?b2
   case' a2=>
    refine pR (Keep B1 w1) hS2 ?_
    refine rk ?_
    refine pR (Keep B1 w1) hS2 ?_
    have hys2:=fun W (hk:Keep B2 w2 W)=>((hys.keep (hk01.trans ((hS2 W hk).mono hB01))).mono (fun k h=>Nat.lt_of_lt_of_le h (hk01.trans ((hS2 W hk).mono hB01)).size))
    refine gM [.slice b nm cap2] (fun W hk=>copyTexts_any b nm cap2 ys W (by omega) (hys2 W hk)) ?_
    rintro wB r w3 B3 hkB ⟨a3,cap33,rfl,hsl3⟩ hbl3 hk23 hB23 hBn3 hB3
    have hS3:∀ W,Keep B3 w3 W→Keep B1 w1 W:=fun W hk=>hS2 W (hk23.trans (hk.mono hB23))
    refine rk ?_
    refine p_takes [gz] 1 (Bs:=B1) (ws:=w1) (by kernel_rfl) hS3 hL1 ?_
    have v3:=True.intro
   case' b2=>
    refine pR (Keep B1 w1) hS2 ?_
    have hys2:=fun W (hk:Keep B2 w2 W)=>((hys.keep (hk01.trans ((hS2 W hk).mono hB01))).mono (fun k h=>Nat.lt_of_lt_of_le h (hk01.trans ((hS2 W hk).mono hB01)).size))
    refine gM [.slice b nm cap2] (fun W hk=>copyTexts_any b nm cap2 ys W (by omega) (hys2 W hk)) ?_
    rintro wB r w3 B3 hkB ⟨a3,cap33,rfl,hsl3⟩ hbl3 hk23 hB23 hBn3 hB3
    have hS3:∀ W,Keep B3 w3 W→Keep B1 w1 W:=fun W hk=>hS2 W (hk23.trans (hk.mono hB23))
    refine rk ?_
    refine p_takes [gz] 1 (Bs:=B1) (ws:=w1) (by kernel_rfl) hS3 hL1 ?_
    refine pR (Keep B1 w1) hS3 ?_
    refine rk ?_
    have v3:=True.intro
 all_goals
  first
  | clear v2
    refine p_done (by kernel_rfl) ?_ (Keep B1 w1) (by kernel_rfl) hS3
    refine rk ?_
    refine good_toLp ?_
    have hk03:Keep (·<w.heap.size) w w3:=hk01.trans (((hk12.trans (hk23.mono hB12))).mono hB01)
    have hB13:∀ k,B1 k→B3 k:=fun k h=>hB23 k (hB12 k h)
    have hszA:=hkA.size
    have hszB:=hkB.size
    have hsz01:=hk01.size
    have hsz12:=hk12.size
    have hsz23:=hk23.size
    have hsa:SlAt (fun k=>B3 k∧w.heap.size≤k) w3 a2 ns 3 xs:=((hsl2.keep (hk23.mono fun k h=>hBn2 k h.1 h.2)).mono fun k h=>⟨hB23 k (hBn2 k h.1 h.2),by have:=h.1;omega⟩)
    have hsb:SlAt (fun k=>B3 k∧w.heap.size≤k) w3 a3 nm 1 ys:=hsl3.mono fun k h=>⟨hBn3 k h.1 h.2,by have:=h.1;omega⟩
    refine good_loopB (fun i:CI Th=>i.l2.length) (LInv ThAt 58 3 w.heap.size B3 w3 p.threads (gz+4)) (fun i=>⟨mkT [(1,.ptr gz 0),(2,.ptr (gz+1) 0),(3,.ptr (gz+2) 0),(4,.v (.int .i64 (i.l1.length:Int)))],mkH [(gz,some (.cells 26 false true true 3 (putL .leaf 0 [.v (.slice a ns cap),.v (.slice b nm cap2),.v (.slice d nt cap3)]))),(gz+1,some (.cells 26 true true true 3 (putL .leaf 0 [.v (.slice none 0 0),.v (.slice none 0 0),.v (.slice none 0 0)]))),(gz+2,some (.cells 26 true true true 3 (putL .leaf 0 [.v (.slice a2 ns cap22),.v (.slice a3 nm cap33),i.X]))),(gz+4,i.ob)],gz+5,[]⟩)
     ⟨[],p.threads,[],.v (.slice none 0 0),none⟩ ⟨rfl,Keep.refl _ _,fun k h=>h,hB3,rfl,RowAt.nil _ _ _⟩ (by kernel_rfl)
     (fun h=>good_sub _ [(1,.ptr gz 0),(2,.ptr (gz+1) 0),(3,.ptr (gz+2) 0),(4,.v (.int .i64 (([]:List Th).length:Int)))] [(gz,some (.cells 26 false true true 3 (putL .leaf 0 [.v (.slice a ns cap),.v (.slice b nm cap2),.v (.slice d nt cap3)]))),(gz+1,some (.cells 26 true true true 3 (putL .leaf 0 [.v (.slice none 0 0),.v (.slice none 0 0),.v (.slice none 0 0)]))),(gz+2,some (.cells 26 true true true 3 (putL .leaf 0 [.v (.slice a2 ns cap22),.v (.slice a3 nm cap33),.v (.slice none 0 0)]))),(gz+4,none)] (gz+5) rfl (by kernel_rfl) (by kernel_rfl) (by kernel_rfl) (by kernel_rfl) (by kernel_rfl) (fun b hb=>hγ1 b (by omega)) (by kernel_rfl) h) ?_
    rintro ⟨l1,l2,xk,X,ob⟩ B5 w5 ⟨hI,hk35,hB35,hB5,hxk,hrow⟩ ih
    simp only at hI hxk hrow
    have hn2:nt=l1.length+l2.length:=by rw [hnt,hI,List.length_append]
    have hw1:thws p.threads=thws l1+thws l2:=by rw [hI,thws_app]
    have hB05:∀ k,k<w.heap.size→B5 k:=fun k h=>hB35 k (hB13 k (hB01 k h))
    have hk05:Keep (·<w.heap.size) w w5:=hk03.trans (hk35.mono fun k h=>hB13 k (hB01 k h))
    have hzs1:SlAt B5 w5 d nt 3 zs:=(hzs.keep hk05).mono hB05
    have hzt1:=hzt.imp (fun _ _ h=>ThAt.keep hk05 hB05 h)
    have hXlt:avLt (gz+5) X=true:=hrow.lt (by omega)
    refine rk ?_
    cases l2 with
    | nil=>
      have hn3:nt=l1.length:=by rw [hn2];simp
      refine gK false (b:=intLt (l1.length:Int) (nt:Int)) (lt_f (by omega)) ?_
      have hfin:∀ (γ:Gm) (W:World) (v x:Value) (h:Hp) (cc:Nat),v = .agg #[.slice a2 ns cap22,.slice a3 nm cap33,x]→VR γ X x→HR B5 Tryz.prog.globals.size γ h cc W→h.get (gz+4)=ob→Keep B5 w5 W→(∃ v',Ending.returned v = .returned v'∧PgPr p w v' W∧Below w.heap.size w W):=by
       intro γ W v x h cc hv hx hH hb hkW
       subst hv
       obtain ⟨hown,_⟩:=row_own (base:=w.heap.size) hrow hb hH hx (fun k hk=>Nat.le_of_not_lt (fun h=>hk (hB05 k h)))
       obtain ⟨a',cap',rfl,_,hsl'⟩:=SlAt.of_own (F:=NewIn w W) hown (fun k h1 h2=>⟨h1,h2⟩)
       have hkl:l1=p.threads:=by rw [hI];simp
       have hlt:∀ k,B5 k∧w.heap.size≤k→NewIn w W k:=fun k hk=>⟨hk.2,Nat.lt_of_lt_of_le (hB5 k hk.1) hkW.size⟩
       have hkq:Keep B3 w3 W:=hk35.trans (hkW.mono hB35)
       refine ⟨_,rfl,⟨_,rfl,a2,cap22,xs,a3,cap33,ys,a',cap',xk,by rw [← hns,← hnm,hkl],?_,hxt,?_,hyt,?_,?_⟩,(hk05.trans (hkW.mono hB05)).below⟩
       · rw [← hns];exact (hsa.keep (hkq.mono fun k h=>h.1)).mono fun k h=>hlt k ⟨hB35 k h.1,h.2⟩
       · rw [← hnm];exact (hsb.keep (hkq.mono fun k h=>h.1)).mono fun k h=>hlt k ⟨hB35 k h.1,h.2⟩
       · rw [hkl] at hsl';exact hsl'
       · rw [hkl] at hxk;exact hxk.imp fun _ _ h=>h.keep (hkW.mono fun k hk=>hk.1) hlt
      rcases hrow.2 with ⟨hX,hob,h0⟩ | ⟨hX,hob⟩
      ·
       subst hX hob
       refine rk ?_
       refine good_end (av := .agg [.v (.slice a2 ns cap22),.v (.slice a3 nm cap33),.v (.slice none 0 0)]) (by kernel_rfl) (fun γ W v _ hv hH hkW=>?_)
       obtain ⟨x,rfl,hx⟩:=VR_agg3 hv
       exact hfin γ W _ x _ _ rfl hx hH (by kernel_rfl) hkW
      ·
       subst hX hob
       refine rk ?_
       refine good_end (av := .agg [.v (.slice a2 ns cap22),.v (.slice a3 nm cap33),.slg (gz+4) 0 l1.length 3]) (by kernel_rfl) (fun γ W v _ hv hH hkW=>?_)
       obtain ⟨x,rfl,hx⟩:=VR_agg3 hv
       exact hfin γ W _ x _ _ rfl hx hH (by kernel_rfl) hkW
    | cons s l3=>
      have hin:l1.length<nt:=by rw [hn2,List.length_cons];omega
      have hks2:=hzt1
      rw [hI] at hks2
      obtain ⟨c,hc,hcell⟩:=hks2.at_ (fun _ _ h=>h.len)
      simp only [thws] at hw1
      obtain ⟨sa,scap,sxs,sb,scap2,sys,rfl,shs,sht,shb,shbt⟩:=hc
      simp only [thw] at hw1
      refine gK true (b:=intLt (l1.length:Int) (nt:Int)) (lt_t (by omega)) ?_
      refine rk ?_
      refine gV (.pointer (some ⟨gB d,oB d+l1.length*3,none⟩)) (S:=Instr.indexAt 24 (.slice d nt cap3) (.int .i64 (l1.length:Int))) (fun W _=>idx_sl (e:=58) hzs1 (by kernel_rfl) (by kernel_rfl) hin W) ?_
      refine rk ?_
      refine gV (.agg #[.string (str s.name),.slice sa s.locals.length scap,.slice sb s.body.length scap2]) (S:=Instr.loadAt 58 (.pointer (some ⟨gB d,oB d+l1.length*3+0,none⟩))) (fun W hk=>load_slA (P:=Tryz.prog) (ty:=58) (m:=3) (cs:=[.string (str s.name),.slice sa s.locals.length scap,.slice sb s.body.length scap2]) hzs1 (by kernel_rfl) (by kernel_rfl) l1.length 0 rfl hcell hk) ?_
      refine rs [] 3 0 ?_
      refine good_lock2 [gz+2,gz+5] (gz+6) (by kernel_rfl) ?_
      intro γ2 B6 w6 hle2 hγ2 hB56 hB6 hk56 hLk2
      have hL2:∀ b,hasNat b [gz+2,gz+5]=true→∃ p,γ2 b=some p∧B6 p.1:=fun b hb=>let ⟨p,h1,h2,_⟩:=hLk2 b hb;⟨p,h1,h2⟩
      have shs6:=(shs.keep hk56).mono hB56
      have shb6:=(shb.keep hk56).mono hB56
      have shbt6:=shbt.keep hk56 hB56
      refine good_plan sy_mixed (.take 0 (.take 1 (.take 2 (.take 3 (.take 5 (.take 6 (.take 8 (.take 9 (.run 4 (.run 7 (.run 10 (.take 11 (.run 12 (.run 13 (.take 14 .done))))))))))))))) 15 (by kernel_rfl) ?_
      refine p_takes [gz+2,gz+5] 1 (Bs:=B6) (ws:=w6) (by kernel_rfl) (fun _ h=>h) hL2 ?_
      refine p_load [gz+2,gz+5] X (by kernel_rfl) (by rcases hrow.2 with ⟨h,_⟩ | ⟨h,_⟩ <;> rw [h] <;> kernel_rfl) (Bs:=B6) (ws:=w6) (by kernel_rfl) (fun _ h=>h) hL2 ?_
      refine p_takes [gz+2,gz+5] 6 (Bs:=B6) (ws:=w6) (by kernel_rfl) (fun _ h=>h) hL2 ?_
      refine pR (Keep B6 w6) (fun _ h=>h) ?_
      refine rk ?_
      refine pR (Keep B6 w6) (fun _ h=>h) ?_
      refine good_fix 30 (gz+6) 3 (by kernel_rfl) (by kernel_rfl) (by kernel_rfl) (fun k=>?_)
      refine good_appM (.slice (some ⟨k,0,none⟩) 0 0) (.slice sa s.locals.length scap) [22,22] (by kernel_rfl) (fun W hk=>app_none (e:=67) (sz:=3) (bytes:=32) (by kernel_rfl) (by kernel_rfl) (by kernel_rfl) shs6 (by omega) (by unfold maxLen;omega) W hk) ?_
      rintro wC r w7 B7 hkC ⟨a7,cap7,rfl,hsl7⟩ hbl7 hk67 hB67 hBn7 hB7
      have hS7:∀ W,Keep B7 w7 W→Keep B6 w6 W:=fun W hk=>hk67.trans (hk.mono hB67)
      refine rk ?_
      refine pR (Keep B6 w6) hS7 ?_
      refine gM [.slice sb s.body.length scap2] (fun W hk=>copyStmts_any _ s.body _ _ _ _ W rfl (Nat.lt_succ_self _) (by omega) ((shb6.keep (hS7 W hk)).mono fun k h=>Nat.lt_of_lt_of_le (hB6 k h) (hS7 W hk).size) (StsAt_ls.1 (shbt6.keep (hS7 W hk) fun k h=>Nat.lt_of_lt_of_le (hB6 k h) (hS7 W hk).size))) ?_
      rintro wD r w8 B8 hkD ⟨a8,cap8,xs8,rfl,hsl8,hst8⟩ hbl8 hk78 hB78 hBn8 hB8
      have hS8:∀ W,Keep B8 w8 W→Keep B6 w6 W:=fun W hk=>hS7 W (hk78.trans (hk.mono hB78))
      refine rk ?_
      refine p_takes [gz+2,gz+5] 1 (Bs:=B6) (ws:=w6) (by kernel_rfl) hS8 hL2 ?_
      refine pR (Keep B6 w6) hS8 ?_
      refine rk ?_
      refine pR (Keep B6 w6) hS8 ?_
      refine good_plain (gz+2) 2 (by kernel_rfl) (fun xold=>?_)
      refine good_app (t:=24) (e:=58) (.slg (gz+7) 0 1 3) 3 64 (gz+4) l1.length 0 xk X ob [.string (str s.name),.slice a7 s.locals.length cap7,.slice a8 s.body.length cap8] [27] (by kernel_rfl) (by kernel_rfl) (by kernel_rfl) (by kernel_rfl) hrow (by kernel_rfl) (by kernel_rfl) (by kernel_rfl)
       (by unfold maxLen;omega) (by omega) (by rw [hγ2 _ (by kernel_rfl)];exact hγ1 _ (by omega)) (by kernel_rfl) (by kernel_rfl) (by kernel_rfl) (by kernel_rfl) (by kernel_rfl) (fun X' ob' hrow'=>?_)
      rcases hrow'.2 with ⟨_,_,h0⟩ | ⟨rfl,rfl⟩
      · omega
      refine rk ?_
      refine p_takes [gz+2,gz+5] 1 (Bs:=B6) (ws:=w6) (by kernel_rfl) hS8 hL2 ?_
      refine p_done (by kernel_rfl) ?_ (Keep B6 w6) (by kernel_rfl) hS8
      refine good_unlock [gz+2,gz+5] (by kernel_rfl) (fun b hb=>let ⟨p,h1,_⟩:=hLk2 b hb;⟨p,h1⟩) ?_
      intro B9 hB98 hB89
      refine rk ?_
      refine gS 4 (x := .int .i64 (wrapF .i64 (((l1.length:Nat):Int)+1))) (.int .i64 ((((l1++[s]).length:Nat):Int))) (by rw [wr64 (n:=((l1.length:Nat):Int)+1) (by omega) (by omega)];congr 1;simp) ?_
      have hlk:∀ b p,hasNat b [gz+2,gz+5]=true→γ2 b=some p→B6 p.1∧¬ B5 p.1:=fun b p hb hp=>by
       obtain ⟨q,h1,h2,h3⟩:=hLk2 b hb
       rw [hp] at h1
       injection h1 with h1
       subst h1
       exact ⟨h2,h3⟩
      have hB68:∀ k,B6 k→B8 k:=fun k h=>hB78 k (hB67 k h)
      have hB59:∀ k,B5 k→B9 k:=fun k hk=>hB89 k (hB68 k (hB56 k hk)) (fun b p hb hp e=>(hlk b p hb hp).2 (e ▸ hk))
      have hk68:Keep B6 w6 w8:=hk67.trans (hk78.mono hB67)
      have hk58:Keep B5 w5 w8:=hk56.trans (hk68.mono hB56)
      have hz1:=hk05.size
      have hz2:=hk56.size
      have hz3:=hkC.size
      have hz4:=hkD.size
      have hz5:=hk67.size
      have hz6:=hk78.size
      have hnot:∀ k,w6.heap.size≤k→∀ b p,hasNat b [gz+2,gz+5]=true→γ2 b=some p→p.1≠k:=fun k hk b p hb hp e=>by
       have h1:=hB6 p.1 (hlk b p hb hp).1
       omega
      have hst:ThAt (fun k=>B9 k∧w.heap.size≤k) w8 s [.string (str s.name),.slice a7 s.locals.length cap7,.slice a8 s.body.length cap8]:=by
       refine ⟨a7,cap7,sxs,a8,cap8,xs8,rfl,?_,sht,?_,?_⟩
       · exact (hsl7.keep (hk78.mono fun k h=>hBn7 k h.1 h.2)).mono fun k h=>⟨hB89 k (hB78 k (hBn7 k h.1 h.2)) (hnot k (by have:=h.1;omega)),by have:=h.1;omega⟩
       · exact hsl8.mono fun k h=>⟨hB89 k (hBn8 k h.1 h.2) (hnot k (by have:=h.1;omega)),by have:=h.1;omega⟩
       · exact hst8.keep (Keep.refl _ _) fun k h=>⟨hB89 k (hBn8 k h.1 h.2) (hnot k (by have:=h.1;omega)),by have:=h.1;omega⟩
      have hI9:LInv ThAt 58 3 w.heap.size B3 w3 p.threads (gz+4) ⟨l1++[s],l3,xk++[.string (str s.name),.slice a7 s.locals.length cap7,.slice a8 s.body.length cap8],.slg (gz+4) 0 (l1.length+(0+1)) 3,some (.row 58 (xk++[.string (str s.name),.slice a7 s.locals.length cap7,.slice a8 s.body.length cap8]))⟩ B9 w8:=by
       refine ⟨by show p.threads=(l1++[_])++l3;rw [hI];simp,hk35.trans (hk58.mono hB35),fun k hk=>hB59 k (hB35 k hk),fun k hk=>hB8 k (hB98 k hk),?_,?_⟩
       · exact LsAt.snoc (hxk.imp fun _ _ h=>h.keep (hk58.mono fun k hk=>hk.1) (fun k hk=>⟨hB59 k hk.1,hk.2⟩)) hst
       · show RowAt _ 3 (gz+4) (l1++[_]).length _ _ _
         rw [List.length_append]
         exact hrow'
      have hγ9:∀ b,gz+6≤b→γ2 b=none:=fun b hb=>by
       rw [hγ2 b (by cases hq:hasNat b [gz+2,gz+5] with
        | false=>rfl
        | true=>exfalso;simp only [hasNat_iff,List.mem_cons,List.not_mem_nil,or_false] at hq;omega)]
       exact hγ1 b (by omega)
      exact Good.up (gU _ [(1,.ptr gz 0),(2,.ptr (gz+1) 0),(3,.ptr (gz+2) 0),(4,.v (.int .i64 ((l1++[s]).length:Int)))] [(gz,some (.cells 26 false true true 3 (putL .leaf 0 [.v (.slice a ns cap),.v (.slice b nm cap2),.v (.slice d nt cap3)]))),(gz+1,some (.cells 26 true true true 3 (putL .leaf 0 [.v (.slice none 0 0),.v (.slice none 0 0),.v (.slice none 0 0)]))),(gz+2,some (.cells 26 true true true 3 (putL .leaf 0 [.v (.slice a2 ns cap22),.v (.slice a3 nm cap33),.slg (gz+4) 0 (l1.length+(0+1)) 3]))),(gz+4,some (.row 58 (xk++[.string (str s.name),.slice a7 s.locals.length cap7,.slice a8 s.body.length cap8])))] (gz+5) (fun b hb=>hγ1 b (by omega)) (ih _ B9 w8 hI9 (by show l3.length<(_::l3).length;simp))) hle2
  | clear v3
    refine p_done (by kernel_rfl) ?_ (Keep B1 w1) (by kernel_rfl) hS3
    refine rk ?_
    refine good_toLp ?_
    have hk03:Keep (·<w.heap.size) w w3:=hk01.trans (((hk12.trans (hk23.mono hB12))).mono hB01)
    have hB13:∀ k,B1 k→B3 k:=fun k h=>hB23 k (hB12 k h)
    have hszA:=hkA.size
    have hszB:=hkB.size
    have hsz01:=hk01.size
    have hsz12:=hk12.size
    have hsz23:=hk23.size
    have hsa:SlAt (fun k=>B3 k∧w.heap.size≤k) w3 a2 ns 3 xs:=((hsl2.keep (hk23.mono fun k h=>hBn2 k h.1 h.2)).mono fun k h=>⟨hB23 k (hBn2 k h.1 h.2),by have:=h.1;omega⟩)
    have hsb:SlAt (fun k=>B3 k∧w.heap.size≤k) w3 a3 nm 1 ys:=hsl3.mono fun k h=>⟨hBn3 k h.1 h.2,by have:=h.1;omega⟩
    refine good_loopB (fun i:CI Th=>i.l2.length) (LInv ThAt 58 3 w.heap.size B3 w3 p.threads (gz+4)) (fun i=>⟨mkT [(1,.ptr gz 0),(2,.ptr (gz+1) 0),(3,.ptr (gz+3) 0),(4,.v (.int .i64 (i.l1.length:Int)))],mkH [(gz,some (.cells 26 false true true 3 (putL .leaf 0 [.v (.slice a ns cap),.v (.slice b nm cap2),.v (.slice d nt cap3)]))),(gz+1,some (.cells 26 true true true 3 (putL .leaf 0 [.v (.slice none 0 0),.v (.slice none 0 0),.v (.slice none 0 0)]))),(gz+3,some (.cells 26 true true true 3 (putL .leaf 0 [.v (.slice a2 ns cap22),.v (.slice a3 nm cap33),i.X]))),(gz+4,i.ob)],gz+5,[]⟩)
     ⟨[],p.threads,[],.v (.slice none 0 0),none⟩ ⟨rfl,Keep.refl _ _,fun k h=>h,hB3,rfl,RowAt.nil _ _ _⟩ (by kernel_rfl)
     (fun h=>good_sub _ [(1,.ptr gz 0),(2,.ptr (gz+1) 0),(3,.ptr (gz+3) 0),(4,.v (.int .i64 (([]:List Th).length:Int)))] [(gz,some (.cells 26 false true true 3 (putL .leaf 0 [.v (.slice a ns cap),.v (.slice b nm cap2),.v (.slice d nt cap3)]))),(gz+1,some (.cells 26 true true true 3 (putL .leaf 0 [.v (.slice none 0 0),.v (.slice none 0 0),.v (.slice none 0 0)]))),(gz+3,some (.cells 26 true true true 3 (putL .leaf 0 [.v (.slice a2 ns cap22),.v (.slice a3 nm cap33),.v (.slice none 0 0)]))),(gz+4,none)] (gz+5) rfl (by kernel_rfl) (by kernel_rfl) (by kernel_rfl) (by kernel_rfl) (by kernel_rfl) (fun b hb=>hγ1 b (by omega)) (by kernel_rfl) h) ?_
    rintro ⟨l1,l2,xk,X,ob⟩ B5 w5 ⟨hI,hk35,hB35,hB5,hxk,hrow⟩ ih
    simp only at hI hxk hrow
    have hn2:nt=l1.length+l2.length:=by rw [hnt,hI,List.length_append]
    have hw1:thws p.threads=thws l1+thws l2:=by rw [hI,thws_app]
    have hB05:∀ k,k<w.heap.size→B5 k:=fun k h=>hB35 k (hB13 k (hB01 k h))
    have hk05:Keep (·<w.heap.size) w w5:=hk03.trans (hk35.mono fun k h=>hB13 k (hB01 k h))
    have hzs1:SlAt B5 w5 d nt 3 zs:=(hzs.keep hk05).mono hB05
    have hzt1:=hzt.imp (fun _ _ h=>ThAt.keep hk05 hB05 h)
    have hXlt:avLt (gz+5) X=true:=hrow.lt (by omega)
    refine rk ?_
    cases l2 with
    | nil=>
      have hn3:nt=l1.length:=by rw [hn2];simp
      refine gK false (b:=intLt (l1.length:Int) (nt:Int)) (lt_f (by omega)) ?_
      have hfin:∀ (γ:Gm) (W:World) (v x:Value) (h:Hp) (cc:Nat),v = .agg #[.slice a2 ns cap22,.slice a3 nm cap33,x]→VR γ X x→HR B5 Tryz.prog.globals.size γ h cc W→h.get (gz+4)=ob→Keep B5 w5 W→(∃ v',Ending.returned v = .returned v'∧PgPr p w v' W∧Below w.heap.size w W):=by
       intro γ W v x h cc hv hx hH hb hkW
       subst hv
       obtain ⟨hown,_⟩:=row_own (base:=w.heap.size) hrow hb hH hx (fun k hk=>Nat.le_of_not_lt (fun h=>hk (hB05 k h)))
       obtain ⟨a',cap',rfl,_,hsl'⟩:=SlAt.of_own (F:=NewIn w W) hown (fun k h1 h2=>⟨h1,h2⟩)
       have hkl:l1=p.threads:=by rw [hI];simp
       have hlt:∀ k,B5 k∧w.heap.size≤k→NewIn w W k:=fun k hk=>⟨hk.2,Nat.lt_of_lt_of_le (hB5 k hk.1) hkW.size⟩
       have hkq:Keep B3 w3 W:=hk35.trans (hkW.mono hB35)
       refine ⟨_,rfl,⟨_,rfl,a2,cap22,xs,a3,cap33,ys,a',cap',xk,by rw [← hns,← hnm,hkl],?_,hxt,?_,hyt,?_,?_⟩,(hk05.trans (hkW.mono hB05)).below⟩
       · rw [← hns];exact (hsa.keep (hkq.mono fun k h=>h.1)).mono fun k h=>hlt k ⟨hB35 k h.1,h.2⟩
       · rw [← hnm];exact (hsb.keep (hkq.mono fun k h=>h.1)).mono fun k h=>hlt k ⟨hB35 k h.1,h.2⟩
       · rw [hkl] at hsl';exact hsl'
       · rw [hkl] at hxk;exact hxk.imp fun _ _ h=>h.keep (hkW.mono fun k hk=>hk.1) hlt
      rcases hrow.2 with ⟨hX,hob,h0⟩ | ⟨hX,hob⟩
      ·
       subst hX hob
       refine rk ?_
       refine good_end (av := .agg [.v (.slice a2 ns cap22),.v (.slice a3 nm cap33),.v (.slice none 0 0)]) (by kernel_rfl) (fun γ W v _ hv hH hkW=>?_)
       obtain ⟨x,rfl,hx⟩:=VR_agg3 hv
       exact hfin γ W _ x _ _ rfl hx hH (by kernel_rfl) hkW
      ·
       subst hX hob
       refine rk ?_
       refine good_end (av := .agg [.v (.slice a2 ns cap22),.v (.slice a3 nm cap33),.slg (gz+4) 0 l1.length 3]) (by kernel_rfl) (fun γ W v _ hv hH hkW=>?_)
       obtain ⟨x,rfl,hx⟩:=VR_agg3 hv
       exact hfin γ W _ x _ _ rfl hx hH (by kernel_rfl) hkW
    | cons s l3=>
      have hin:l1.length<nt:=by rw [hn2,List.length_cons];omega
      have hks2:=hzt1
      rw [hI] at hks2
      obtain ⟨c,hc,hcell⟩:=hks2.at_ (fun _ _ h=>h.len)
      simp only [thws] at hw1
      obtain ⟨sa,scap,sxs,sb,scap2,sys,rfl,shs,sht,shb,shbt⟩:=hc
      simp only [thw] at hw1
      refine gK true (b:=intLt (l1.length:Int) (nt:Int)) (lt_t (by omega)) ?_
      refine rk ?_
      refine gV (.pointer (some ⟨gB d,oB d+l1.length*3,none⟩)) (S:=Instr.indexAt 24 (.slice d nt cap3) (.int .i64 (l1.length:Int))) (fun W _=>idx_sl (e:=58) hzs1 (by kernel_rfl) (by kernel_rfl) hin W) ?_
      refine rk ?_
      refine gV (.agg #[.string (str s.name),.slice sa s.locals.length scap,.slice sb s.body.length scap2]) (S:=Instr.loadAt 58 (.pointer (some ⟨gB d,oB d+l1.length*3+0,none⟩))) (fun W hk=>load_slA (P:=Tryz.prog) (ty:=58) (m:=3) (cs:=[.string (str s.name),.slice sa s.locals.length scap,.slice sb s.body.length scap2]) hzs1 (by kernel_rfl) (by kernel_rfl) l1.length 0 rfl hcell hk) ?_
      refine rs [] 3 0 ?_
      refine good_lock2 [gz+3,gz+5] (gz+6) (by kernel_rfl) ?_
      intro γ2 B6 w6 hle2 hγ2 hB56 hB6 hk56 hLk2
      have hL2:∀ b,hasNat b [gz+3,gz+5]=true→∃ p,γ2 b=some p∧B6 p.1:=fun b hb=>let ⟨p,h1,h2,_⟩:=hLk2 b hb;⟨p,h1,h2⟩
      have shs6:=(shs.keep hk56).mono hB56
      have shb6:=(shb.keep hk56).mono hB56
      have shbt6:=shbt.keep hk56 hB56
      refine good_plan sy_mixed (.take 0 (.take 1 (.take 2 (.take 3 (.take 5 (.take 6 (.take 8 (.take 9 (.run 4 (.run 7 (.run 10 (.take 11 (.run 12 (.run 13 (.take 14 .done))))))))))))))) 15 (by kernel_rfl) ?_
      refine p_takes [gz+3,gz+5] 1 (Bs:=B6) (ws:=w6) (by kernel_rfl) (fun _ h=>h) hL2 ?_
      refine p_load [gz+3,gz+5] X (by kernel_rfl) (by rcases hrow.2 with ⟨h,_⟩ | ⟨h,_⟩ <;> rw [h] <;> kernel_rfl) (Bs:=B6) (ws:=w6) (by kernel_rfl) (fun _ h=>h) hL2 ?_
      refine p_takes [gz+3,gz+5] 6 (Bs:=B6) (ws:=w6) (by kernel_rfl) (fun _ h=>h) hL2 ?_
      refine pR (Keep B6 w6) (fun _ h=>h) ?_
      refine rk ?_
      refine pR (Keep B6 w6) (fun _ h=>h) ?_
      refine good_fix 30 (gz+6) 3 (by kernel_rfl) (by kernel_rfl) (by kernel_rfl) (fun k=>?_)
      refine good_appM (.slice (some ⟨k,0,none⟩) 0 0) (.slice sa s.locals.length scap) [22,22] (by kernel_rfl) (fun W hk=>app_none (e:=67) (sz:=3) (bytes:=32) (by kernel_rfl) (by kernel_rfl) (by kernel_rfl) shs6 (by omega) (by unfold maxLen;omega) W hk) ?_
      rintro wC r w7 B7 hkC ⟨a7,cap7,rfl,hsl7⟩ hbl7 hk67 hB67 hBn7 hB7
      have hS7:∀ W,Keep B7 w7 W→Keep B6 w6 W:=fun W hk=>hk67.trans (hk.mono hB67)
      refine rk ?_
      refine pR (Keep B6 w6) hS7 ?_
      refine gM [.slice sb s.body.length scap2] (fun W hk=>copyStmts_any _ s.body _ _ _ _ W rfl (Nat.lt_succ_self _) (by omega) ((shb6.keep (hS7 W hk)).mono fun k h=>Nat.lt_of_lt_of_le (hB6 k h) (hS7 W hk).size) (StsAt_ls.1 (shbt6.keep (hS7 W hk) fun k h=>Nat.lt_of_lt_of_le (hB6 k h) (hS7 W hk).size))) ?_
      rintro wD r w8 B8 hkD ⟨a8,cap8,xs8,rfl,hsl8,hst8⟩ hbl8 hk78 hB78 hBn8 hB8
      have hS8:∀ W,Keep B8 w8 W→Keep B6 w6 W:=fun W hk=>hS7 W (hk78.trans (hk.mono hB78))
      refine rk ?_
      refine p_takes [gz+3,gz+5] 1 (Bs:=B6) (ws:=w6) (by kernel_rfl) hS8 hL2 ?_
      refine pR (Keep B6 w6) hS8 ?_
      refine rk ?_
      refine pR (Keep B6 w6) hS8 ?_
      refine good_plain (gz+3) 2 (by kernel_rfl) (fun xold=>?_)
      refine good_app (t:=24) (e:=58) (.slg (gz+7) 0 1 3) 3 64 (gz+4) l1.length 0 xk X ob [.string (str s.name),.slice a7 s.locals.length cap7,.slice a8 s.body.length cap8] [27] (by kernel_rfl) (by kernel_rfl) (by kernel_rfl) (by kernel_rfl) hrow (by kernel_rfl) (by kernel_rfl) (by kernel_rfl)
       (by unfold maxLen;omega) (by omega) (by rw [hγ2 _ (by kernel_rfl)];exact hγ1 _ (by omega)) (by kernel_rfl) (by kernel_rfl) (by kernel_rfl) (by kernel_rfl) (by kernel_rfl) (fun X' ob' hrow'=>?_)
      rcases hrow'.2 with ⟨_,_,h0⟩ | ⟨rfl,rfl⟩
      · omega
      refine rk ?_
      refine p_takes [gz+3,gz+5] 1 (Bs:=B6) (ws:=w6) (by kernel_rfl) hS8 hL2 ?_
      refine p_done (by kernel_rfl) ?_ (Keep B6 w6) (by kernel_rfl) hS8
      refine good_unlock [gz+3,gz+5] (by kernel_rfl) (fun b hb=>let ⟨p,h1,_⟩:=hLk2 b hb;⟨p,h1⟩) ?_
      intro B9 hB98 hB89
      refine rk ?_
      refine gS 4 (x := .int .i64 (wrapF .i64 (((l1.length:Nat):Int)+1))) (.int .i64 ((((l1++[s]).length:Nat):Int))) (by rw [wr64 (n:=((l1.length:Nat):Int)+1) (by omega) (by omega)];congr 1;simp) ?_
      have hlk:∀ b p,hasNat b [gz+3,gz+5]=true→γ2 b=some p→B6 p.1∧¬ B5 p.1:=fun b p hb hp=>by
       obtain ⟨q,h1,h2,h3⟩:=hLk2 b hb
       rw [hp] at h1
       injection h1 with h1
       subst h1
       exact ⟨h2,h3⟩
      have hB68:∀ k,B6 k→B8 k:=fun k h=>hB78 k (hB67 k h)
      have hB59:∀ k,B5 k→B9 k:=fun k hk=>hB89 k (hB68 k (hB56 k hk)) (fun b p hb hp e=>(hlk b p hb hp).2 (e ▸ hk))
      have hk68:Keep B6 w6 w8:=hk67.trans (hk78.mono hB67)
      have hk58:Keep B5 w5 w8:=hk56.trans (hk68.mono hB56)
      have hz1:=hk05.size
      have hz2:=hk56.size
      have hz3:=hkC.size
      have hz4:=hkD.size
      have hz5:=hk67.size
      have hz6:=hk78.size
      have hnot:∀ k,w6.heap.size≤k→∀ b p,hasNat b [gz+3,gz+5]=true→γ2 b=some p→p.1≠k:=fun k hk b p hb hp e=>by
       have h1:=hB6 p.1 (hlk b p hb hp).1
       omega
      have hst:ThAt (fun k=>B9 k∧w.heap.size≤k) w8 s [.string (str s.name),.slice a7 s.locals.length cap7,.slice a8 s.body.length cap8]:=by
       refine ⟨a7,cap7,sxs,a8,cap8,xs8,rfl,?_,sht,?_,?_⟩
       · exact (hsl7.keep (hk78.mono fun k h=>hBn7 k h.1 h.2)).mono fun k h=>⟨hB89 k (hB78 k (hBn7 k h.1 h.2)) (hnot k (by have:=h.1;omega)),by have:=h.1;omega⟩
       · exact hsl8.mono fun k h=>⟨hB89 k (hBn8 k h.1 h.2) (hnot k (by have:=h.1;omega)),by have:=h.1;omega⟩
       · exact hst8.keep (Keep.refl _ _) fun k h=>⟨hB89 k (hBn8 k h.1 h.2) (hnot k (by have:=h.1;omega)),by have:=h.1;omega⟩
      have hI9:LInv ThAt 58 3 w.heap.size B3 w3 p.threads (gz+4) ⟨l1++[s],l3,xk++[.string (str s.name),.slice a7 s.locals.length cap7,.slice a8 s.body.length cap8],.slg (gz+4) 0 (l1.length+(0+1)) 3,some (.row 58 (xk++[.string (str s.name),.slice a7 s.locals.length cap7,.slice a8 s.body.length cap8]))⟩ B9 w8:=by
       refine ⟨by show p.threads=(l1++[_])++l3;rw [hI];simp,hk35.trans (hk58.mono hB35),fun k hk=>hB59 k (hB35 k hk),fun k hk=>hB8 k (hB98 k hk),?_,?_⟩
       · exact LsAt.snoc (hxk.imp fun _ _ h=>h.keep (hk58.mono fun k hk=>hk.1) (fun k hk=>⟨hB59 k hk.1,hk.2⟩)) hst
       · show RowAt _ 3 (gz+4) (l1++[_]).length _ _ _
         rw [List.length_append]
         exact hrow'
      have hγ9:∀ b,gz+6≤b→γ2 b=none:=fun b hb=>by
       rw [hγ2 b (by cases hq:hasNat b [gz+3,gz+5] with
        | false=>rfl
        | true=>exfalso;simp only [hasNat_iff,List.mem_cons,List.not_mem_nil,or_false] at hq;omega)]
       exact hγ1 b (by omega)
      exact Good.up (gU _ [(1,.ptr gz 0),(2,.ptr (gz+1) 0),(3,.ptr (gz+3) 0),(4,.v (.int .i64 ((l1++[s]).length:Int)))] [(gz,some (.cells 26 false true true 3 (putL .leaf 0 [.v (.slice a ns cap),.v (.slice b nm cap2),.v (.slice d nt cap3)]))),(gz+1,some (.cells 26 true true true 3 (putL .leaf 0 [.v (.slice none 0 0),.v (.slice none 0 0),.v (.slice none 0 0)]))),(gz+3,some (.cells 26 true true true 3 (putL .leaf 0 [.v (.slice a2 ns cap22),.v (.slice a3 nm cap33),.slg (gz+4) 0 (l1.length+(0+1)) 3]))),(gz+4,some (.row 58 (xk++[.string (str s.name),.slice a7 s.locals.length cap7,.slice a8 s.body.length cap8])))] (gz+5) (fun b hb=>hγ1 b (by omega)) (ih _ B9 w8 hI9 (by show l3.length<(_::l3).length;simp))) hle2
end Go.Proofs.YtiacalnkmnckjaaGreatDoor
end
section
namespace Go.Proofs.YtiacalnkmnckjaaGreatDoor
open Go.RowKit Go.As
def nls:List (List UInt8)→Nat
 | []=>0
 | x::l=>x.length+nls l
theorem nls_app:∀ (l r:List (List UInt8)),nls (l++r)=nls l+nls r
 | [],r=>by simp [nls]
 | e::l,r=>by
   rw [List.cons_append]
   simp only [nls]
   rw [nls_app l r]
   omega
def vls:List Vr→Nat
 | []=>0
 | x::l=>x.name.length+vls l
theorem vls_app:∀ (l r:List Vr),vls (l++r)=vls l+vls r
 | [],r=>by simp [vls]
 | e::l,r=>by
   rw [List.cons_append]
   simp only [vls]
   rw [vls_app l r]
   omega
def tls:List Th→Nat
 | []=>0
 | x::l=>x.name.length+vls x.locals+tls l
theorem tls_app:∀ (l r:List Th),tls (l++r)=tls l+tls r
 | [],r=>by simp [tls]
 | e::l,r=>by
   rw [List.cons_append]
   simp only [tls]
   rw [tls_app l r]
   omega
def Lrg (p:Pg):Prop:=40<p.threads.length∨40<p.shared.length∨40<p.mutexes.length∨(∃ t∈p.threads,40<t.locals.length)∨4000<nls p.mutexes+vls p.shared+tls p.threads∨6000<pwt p
noncomputable def lrg (p:Pg):Bool:=@decide (Lrg p) (Classical.propDecidable _)
theorem lrg_t {p:Pg}:lrg p=true↔Lrg p:=by unfold lrg;exact @decide_eq_true_iff _ (Classical.propDecidable _)
theorem lrg_f {p:Pg}:lrg p=false↔¬ Lrg p:=by rw [← Bool.not_eq_true,lrg_t]
theorem lt_of_t {a b:Int} (h:Sy.intLt a b=true):a<b:=by rw [Sy.intLt_eq] at h;exact of_decide_eq_true h
theorem lt_of_f {a b:Int} (h:Sy.intLt a b=false):¬ a<b:=by rw [Sy.intLt_eq] at h;exact of_decide_eq_false h
open Go.Sy in
set_option maxRecDepth 100000 in
theorem large_any (p:Pg) (cs:List Value) (w:World) (hbd0:pwt p≤1000000000000) (hnb:nls p.mutexes+vls p.shared+tls p.threads≤1000000000000) (hp:PgAt (·<w.heap.size) w p cs):
  Calls Tryz.prog 12 #[.agg cs.toArray] w fun r w'=>r = .returned (.bool (lrg p))∧Below w.heap.size w w':=by
 have hp0:=hp
 obtain ⟨a,cap,xs,b,cap2,ys,d,cap3,zs,rfl,hxs,hxt,hys,hyt,hzs,hzt⟩:=hp
 obtain ⟨ns,hns⟩:∃ n,n=p.shared.length:=⟨_,rfl⟩
 obtain ⟨nm,hnm⟩:∃ n,n=p.mutexes.length:=⟨_,rfl⟩
 obtain ⟨nt,hnt⟩:∃ n,n=p.threads.length:=⟨_,rfl⟩
 have hbd:ns+nm+thws p.threads≤1000000000000:=by rw [hns,hnm];exact hbd0
 have hnl0:=thws_len p.threads
 rw [← hns,← hnm,← hnt] at hp0 ⊢
 rw [← hns] at hxs
 rw [← hnm] at hys
 rw [← hnt] at hzs
 refine Sy.enter (vs:=[.agg #[.slice a ns cap,.slice b nm cap2,.slice d nt cap3]]) sy_fine Tryz.func12 rfl (fun γ=>norms_LR _) rfl (fun γ0 hγ0=>?_)
 refine rk ?_
 refine good_toLp ?_
 refine good_loopI (fun i:List (List UInt8)×List (List UInt8)=>i.2.length) (fun i=>p.mutexes=i.1++i.2) (fun i=>⟨mkT [(1,.ptr gz 0),(3,.v (.int .i64 ((nls i.1:Nat):Int))),(4,.v (.int .i64 ((i.1.length:Nat):Int)))],mkH [(gz,some (.cells 26 true true true 3 (putL .leaf 0 [.v (.slice a ns cap),.v (.slice b nm cap2),.v (.slice d nt cap3)])))],(gz+1),[]⟩)
  ([],p.mutexes) rfl (by kernel_rfl)
  (fun h=>good_sub _ [(1,.ptr gz 0),(3,.v (.int .i64 ((nls ([]:List (List UInt8)):Nat):Int))),(4,.v (.int .i64 ((([]:List (List UInt8)).length:Nat):Int)))] [(gz,some (.cells 26 true true true 3 (putL .leaf 0 [.v (.slice a ns cap),.v (.slice b nm cap2),.v (.slice d nt cap3)])))] (gz+1) rfl (by kernel_rfl) (by kernel_rfl) (by kernel_rfl) (by kernel_rfl) (by kernel_rfl) (fun b hb=>hγ0 b (by have h:gz=Tryz.prog.globals.size:=rfl;omega)) (by kernel_rfl) h) ?_
 rintro ⟨lM,rM⟩ hIM ihM
 have hIM:p.mutexes=lM++rM:=hIM
 have hn2M:nm=lM.length+rM.length:=by rw [hnm,hIM,List.length_append]
 have hsM:nls p.mutexes=nls lM+nls rM:=by rw [hIM,nls_app]
 refine rk ?_
 cases rM with
 | cons sM mM=>
   have hinM:lM.length<nm:=by rw [hn2M,List.length_cons];omega
   have hksM:=hyt
   rw [hIM] at hksM
   obtain ⟨cM,hcM,hcellM⟩:=hksM.at_ (fun _ _ h=>h.len)
   have hs2M:nls (lM++[sM])=nls lM+sM.length:=by rw [nls_app];simp [nls,vls,tls]
   have hs3M:nls (sM::mM)=sM.length+nls mM:=by simp [nls,vls,tls]
   refine gK true (b:=intLt (lM.length:Int) (nm:Int)) (lt_t (by omega)) ?_
   refine rk ?_
   obtain rfl:cM=[.string (str sM)]:=hcM
   refine gV (.pointer (some ⟨gB b,oB b+lM.length*1,none⟩)) (S:=Instr.indexAt 23 (.slice b nm cap2) (.int .i64 (lM.length:Int))) (fun W _=>idx_sl (e:=9) hys (by kernel_rfl) (by kernel_rfl) hinM W) ?_
   refine rk ?_
   refine gV (.string (str sM)) (S:=Instr.loadAt 9 (.pointer (some ⟨gB b,oB b+lM.length*1+0,none⟩))) (fun W hk=>load_sl hys (by kernel_rfl) lM.length 0 (hcellM 0 _ rfl) hk) ?_
   refine rk ?_
   refine gS 3 (x := .int .i64 (wrapF .i64 (((nls lM:Nat):Int)+((sM.length:Nat):Int)))) (.int .i64 (((nls (lM++[sM]):Nat):Int))) (by rw [wr64 (n:=((nls lM:Nat):Int)+((sM.length:Nat):Int)) (by omega) (by omega)];congr 1;omega) ?_
   refine gS 4 (x := .int .i64 (wrapF .i64 (((lM.length:Nat):Int)+1))) (.int .i64 ((((lM++[sM]).length:Nat):Int))) (by rw [wr64 (n:=((lM.length:Nat):Int)+1) (by omega) (by omega)];congr 1;simp) ?_
   exact gU _ [(1,.ptr gz 0),(3,.v (.int .i64 ((nls (lM++[sM]):Nat):Int))),(4,.v (.int .i64 (((lM++[sM]).length:Nat):Int)))] [(gz,some (.cells 26 true true true 3 (putL .leaf 0 [.v (.slice a ns cap),.v (.slice b nm cap2),.v (.slice d nt cap3)])))] (gz+1) (fun b hb=>hγ0 b (by have h:gz=Tryz.prog.globals.size:=rfl;omega)) (ihM (lM++[sM],mM) (by show p.mutexes=(lM++[_])++mM;rw [hIM];simp) (by show mM.length<(_::mM).length;simp))
 | nil=>
   have hklM:lM=p.mutexes:=by rw [hIM];simp
   have hn3M:nm=lM.length:=by rw [hn2M];simp
   refine gK false (b:=intLt (lM.length:Int) (nm:Int)) (lt_f (by omega)) ?_
   refine rk ?_
   refine gS 3 (x := .int .i64 ((nls lM:Nat):Int)) (.int .i64 ((nls p.mutexes+vls ([]:List Vr):Nat):Int)) (by rw [hklM];simp [vls]) ?_
   refine rk ?_
   refine good_toLp ?_
   refine good_loopI (fun i:List Vr×List Vr=>i.2.length) (fun i=>p.shared=i.1++i.2) (fun i=>⟨mkT [(1,.ptr gz 0),(3,.v (.int .i64 ((nls p.mutexes+vls i.1:Nat):Int))),(5,.v (.int .i64 ((i.1.length:Nat):Int)))],mkH [(gz,some (.cells 26 true true true 3 (putL .leaf 0 [.v (.slice a ns cap),.v (.slice b nm cap2),.v (.slice d nt cap3)])))],(gz+1),[]⟩)
    ([],p.shared) rfl (by kernel_rfl)
    (fun h=>good_sub _ [(1,.ptr gz 0),(3,.v (.int .i64 ((nls p.mutexes+vls ([]:List Vr):Nat):Int))),(5,.v (.int .i64 ((([]:List Vr).length:Nat):Int)))] [(gz,some (.cells 26 true true true 3 (putL .leaf 0 [.v (.slice a ns cap),.v (.slice b nm cap2),.v (.slice d nt cap3)])))] (gz+1) rfl (by kernel_rfl) (by kernel_rfl) (by kernel_rfl) (by kernel_rfl) (by kernel_rfl) (fun b hb=>hγ0 b (by have h:gz=Tryz.prog.globals.size:=rfl;omega)) (by kernel_rfl) h) ?_
   rintro ⟨lS,rS⟩ hIS ihS
   have hIS:p.shared=lS++rS:=hIS
   have hn2S:ns=lS.length+rS.length:=by rw [hns,hIS,List.length_append]
   have hsS:vls p.shared=vls lS+vls rS:=by rw [hIS,vls_app]
   refine rk ?_
   cases rS with
   | cons sS mS=>
     have hinS:lS.length<ns:=by rw [hn2S,List.length_cons];omega
     have hksS:=hxt
     rw [hIS] at hksS
     obtain ⟨cS,hcS,hcellS⟩:=hksS.at_ (fun _ _ h=>h.len)
     have hs2S:vls (lS++[sS])=vls lS+sS.name.length:=by rw [vls_app];simp [nls,vls,tls]
     have hs3S:vls (sS::mS)=sS.name.length+vls mS:=by simp [nls,vls,tls]
     refine gK true (b:=intLt (lS.length:Int) (ns:Int)) (lt_t (by omega)) ?_
     refine rk ?_
     obtain rfl:cS=[.string (str sS.name),.int .u8 sS.ty,.int .u64 sS.bits]:=hcS
     refine gV (.pointer (some ⟨gB a,oB a+lS.length*3,none⟩)) (S:=Instr.indexAt 22 (.slice a ns cap) (.int .i64 (lS.length:Int))) (fun W _=>idx_sl (e:=67) hxs (by kernel_rfl) (by kernel_rfl) hinS W) ?_
     refine rk ?_
     refine gV (.string (str sS.name)) (S:=Instr.loadAt 9 (.pointer (some ⟨gB a,oB a+lS.length*3+0,none⟩))) (fun W hk=>load_sl hxs (by kernel_rfl) lS.length 0 (hcellS 0 _ rfl) hk) ?_
     refine rk ?_
     refine gS 3 (x := .int .i64 (wrapF .i64 (((nls p.mutexes+vls lS:Nat):Int)+((sS.name.length:Nat):Int)))) (.int .i64 (((nls p.mutexes+vls (lS++[sS]):Nat):Int))) (by rw [wr64 (n:=((nls p.mutexes+vls lS:Nat):Int)+((sS.name.length:Nat):Int)) (by omega) (by omega)];congr 1;omega) ?_
     refine gS 5 (x := .int .i64 (wrapF .i64 (((lS.length:Nat):Int)+1))) (.int .i64 ((((lS++[sS]).length:Nat):Int))) (by rw [wr64 (n:=((lS.length:Nat):Int)+1) (by omega) (by omega)];congr 1;simp) ?_
     exact gU _ [(1,.ptr gz 0),(3,.v (.int .i64 ((nls p.mutexes+vls (lS++[sS]):Nat):Int))),(5,.v (.int .i64 (((lS++[sS]).length:Nat):Int)))] [(gz,some (.cells 26 true true true 3 (putL .leaf 0 [.v (.slice a ns cap),.v (.slice b nm cap2),.v (.slice d nt cap3)])))] (gz+1) (fun b hb=>hγ0 b (by have h:gz=Tryz.prog.globals.size:=rfl;omega)) (ihS (lS++[sS],mS) (by show p.shared=(lS++[_])++mS;rw [hIS];simp) (by show mS.length<(_::mS).length;simp))
   | nil=>
     have hklS:lS=p.shared:=by rw [hIS];simp
     have hn3S:ns=lS.length:=by rw [hn2S];simp
     refine gK false (b:=intLt (lS.length:Int) (ns:Int)) (lt_f (by omega)) ?_
     refine rs [45] 60 0 ?_
     rcases Bool.eq_false_or_eq_true (intLt 40 (nt:Int)) with h1 | h1
     ·
      refine gS 43 (x := .bool (intLt 40 (nt:Int))) (.bool true) (by rw [h1]) ?_
      refine gS 44 (x := .bool (intLt 40 (nt:Int))) (.bool true) (by rw [h1]) ?_
      refine rs [] 60 4 ?_
      refine gR (.bool true) (fun W hk=>⟨?_,hk.below⟩)
      rw [lrg_t.2 (.inl (by have:=lt_of_t h1;omega))]
     refine gS 43 (x := .bool (intLt 40 (nt:Int))) (.bool false) (by rw [h1]) ?_
     refine gS 44 (x := .bool (intLt 40 (nt:Int))) (.bool false) (by rw [h1]) ?_
     refine rs [51] 60 0 ?_
     rcases Bool.eq_false_or_eq_true (intLt 40 (ns:Int)) with h2 | h2
     ·
      refine gS 48 (x := .bool (intLt 40 (ns:Int))) (.bool true) (by rw [h2]) ?_
      refine gS 49 (x := .bool (intLt 40 (ns:Int))) (.bool true) (by rw [h2]) ?_
      refine gS 50 (x := .bool (intLt 40 (ns:Int))) (.bool true) (by rw [h2]) ?_
      refine rs [] 60 4 ?_
      refine gR (.bool true) (fun W hk=>⟨?_,hk.below⟩)
      rw [lrg_t.2 (.inr (.inl (by have:=lt_of_t h2;omega)))]
     refine gS 48 (x := .bool (intLt 40 (ns:Int))) (.bool false) (by rw [h2]) ?_
     refine gS 49 (x := .bool (intLt 40 (ns:Int))) (.bool false) (by rw [h2]) ?_
     refine gS 50 (x := .bool (intLt 40 (ns:Int))) (.bool false) (by rw [h2]) ?_
     refine rk ?_
     refine good_cond (b:=intLt 40 (nm:Int)) (by kernel_rfl) (fun h3=>?_) (fun h3=>?_)
     ·
      refine rs [] 60 4 ?_
      refine gR (.bool true) (fun W hk=>⟨?_,hk.below⟩)
      rw [lrg_t.2 (.inr (.inr (.inl (by have:=lt_of_t h3;omega))))]
     refine rk ?_
     refine gS 3 (x := .int .i64 ((nls p.mutexes+vls lS:Nat):Int)) (.int .i64 ((nls p.mutexes+vls p.shared+tls ([]:List Th):Nat):Int)) (by rw [hklS];simp [tls]) ?_
     refine good_toLp ?_
     refine good_loopI (fun i:List Th×List Th=>i.2.length) (fun i=>p.threads=i.1++i.2∧∀ t∈i.1,t.locals.length≤40) (fun i=>⟨mkT [(1,.ptr gz 0),(3,.v (.int .i64 ((nls p.mutexes+vls p.shared+tls i.1:Nat):Int))),(6,.v (.int .i64 ((i.1.length:Nat):Int)))],mkH [(gz,some (.cells 26 true true true 3 (putL .leaf 0 [.v (.slice a ns cap),.v (.slice b nm cap2),.v (.slice d nt cap3)])))],(gz+1),[]⟩)
      ([],p.threads) ⟨rfl,fun t h=>by cases h⟩ (by kernel_rfl)
      (fun h=>good_sub _ [(1,.ptr gz 0),(3,.v (.int .i64 ((nls p.mutexes+vls p.shared+tls ([]:List Th):Nat):Int))),(6,.v (.int .i64 ((([]:List Th).length:Nat):Int)))] [(gz,some (.cells 26 true true true 3 (putL .leaf 0 [.v (.slice a ns cap),.v (.slice b nm cap2),.v (.slice d nt cap3)])))] (gz+1) rfl (by kernel_rfl) (by kernel_rfl) (by kernel_rfl) (by kernel_rfl) (by kernel_rfl) (fun b hb=>hγ0 b (by have h:gz=Tryz.prog.globals.size:=rfl;omega)) (by kernel_rfl) h) ?_
     rintro ⟨lT,rT⟩ hIT ihT
     have hall:∀ t∈lT,t.locals.length≤40:=hIT.2
     have hIT:p.threads=lT++rT:=hIT.1
     have hn2T:nt=lT.length+rT.length:=by rw [hnt,hIT,List.length_append]
     have hsT:tls p.threads=tls lT+tls rT:=by rw [hIT,tls_app]
     refine rk ?_
     cases rT with
     | cons sT mT=>
       have hinT:lT.length<nt:=by rw [hn2T,List.length_cons];omega
       have hksT:=hzt
       rw [hIT] at hksT
       obtain ⟨cT,hcT,hcellT⟩:=hksT.at_ (fun _ _ h=>h.len)
       have hs2T:tls (lT++[sT])=tls lT+(sT.name.length+vls sT.locals):=by rw [tls_app];simp [nls,vls,tls]
       have hs3T:tls (sT::mT)=(sT.name.length+vls sT.locals)+tls mT:=by simp [nls,vls,tls]
       refine gK true (b:=intLt (lT.length:Int) (nt:Int)) (lt_t (by omega)) ?_
       refine rk ?_
       obtain ⟨sa,scap,sxs,sb,scap2,sys,rfl,shs,sht,shb,shbt⟩:=hcT
       refine gV (.pointer (some ⟨gB d,oB d+lT.length*3,none⟩)) (S:=Instr.indexAt 24 (.slice d nt cap3) (.int .i64 (lT.length:Int))) (fun W _=>idx_sl (e:=58) hzs (by kernel_rfl) (by kernel_rfl) hinT W) ?_
       refine rk ?_
       refine gV (.agg #[.string (str sT.name),.slice sa sT.locals.length scap,.slice sb sT.body.length scap2]) (S:=Instr.loadAt 58 (.pointer (some ⟨gB d,oB d+lT.length*3+0,none⟩))) (fun W hk=>load_slA (P:=Tryz.prog) (ty:=58) (m:=3) (cs:=[.string (str sT.name),.slice sa sT.locals.length scap,.slice sb sT.body.length scap2]) hzs (by kernel_rfl) (by kernel_rfl) lT.length 0 rfl hcellT hk) ?_
       refine rk ?_
       refine good_cond (b:=intLt 40 (sT.locals.length:Int)) (by kernel_rfl) (fun h4=>?_) (fun h4=>?_)
       ·
        refine rs [] 60 4 ?_
        refine gR (.bool true) (fun W hk=>⟨?_,hk.below⟩)
        rw [lrg_t.2 (.inr (.inr (.inr (.inl ⟨sT,by rw [hIT];simp,by have:=lt_of_t h4;omega⟩))))]
       have h40:sT.locals.length≤40:=by have:=lt_of_f h4;omega
       refine rk ?_
       refine gS 3 (x := .int .i64 (wrapF .i64 (((nls p.mutexes+vls p.shared+tls lT:Nat):Int)+((sT.name.length:Nat):Int)))) (.int .i64 (((nls p.mutexes+vls p.shared+tls lT+sT.name.length+vls ([]:List Vr):Nat):Int))) (by rw [wr64 (n:=((nls p.mutexes+vls p.shared+tls lT:Nat):Int)+((sT.name.length:Nat):Int)) (by omega) (by omega)];simp [vls]) ?_
       refine good_toLp ?_
       refine good_loopI (fun i:List Vr×List Vr=>i.2.length) (fun i=>sT.locals=i.1++i.2) (fun i=>⟨mkT [(1,.ptr gz 0),(3,.v (.int .i64 ((nls p.mutexes+vls p.shared+tls lT+sT.name.length+vls i.1:Nat):Int))),(6,.v (.int .i64 ((lT.length:Nat):Int))),(7,.ptr (gz+1) 0),(8,.v (.int .i64 ((i.1.length:Nat):Int)))],mkH [(gz,some (.cells 26 true true true 3 (putL .leaf 0 [.v (.slice a ns cap),.v (.slice b nm cap2),.v (.slice d nt cap3)]))),(gz+1,some (.cells 58 true true true 3 (putL .leaf 0 [.v (.string (str sT.name)),.v (.slice sa sT.locals.length scap),.v (.slice sb sT.body.length scap2)])))],(gz+2),[]⟩)
        ([],sT.locals) rfl (by kernel_rfl)
        (fun h=>good_sub _ [(1,.ptr gz 0),(3,.v (.int .i64 ((nls p.mutexes+vls p.shared+tls lT+sT.name.length+vls ([]:List Vr):Nat):Int))),(6,.v (.int .i64 ((lT.length:Nat):Int))),(7,.ptr (gz+1) 0),(8,.v (.int .i64 ((([]:List Vr).length:Nat):Int)))] [(gz,some (.cells 26 true true true 3 (putL .leaf 0 [.v (.slice a ns cap),.v (.slice b nm cap2),.v (.slice d nt cap3)]))),(gz+1,some (.cells 58 true true true 3 (putL .leaf 0 [.v (.string (str sT.name)),.v (.slice sa sT.locals.length scap),.v (.slice sb sT.body.length scap2)])))] (gz+2) rfl (by kernel_rfl) (by kernel_rfl) (by kernel_rfl) (by kernel_rfl) (by kernel_rfl) (fun b hb=>hγ0 b (by have h:gz=Tryz.prog.globals.size:=rfl;omega)) (by kernel_rfl) h) ?_
       rintro ⟨lL,rL⟩ hIL ihL
       have hIL:sT.locals=lL++rL:=hIL
       have hn2L:sT.locals.length=lL.length+rL.length:=by rw [hIL,List.length_append]
       have hsL:vls sT.locals=vls lL+vls rL:=by rw [hIL,vls_app]
       refine rk ?_
       cases rL with
       | cons sL mL=>
         have hinL:lL.length<sT.locals.length:=by rw [hn2L,List.length_cons];omega
         have hksL:=sht
         rw [hIL] at hksL
         obtain ⟨cL,hcL,hcellL⟩:=hksL.at_ (fun _ _ h=>h.len)
         have hs2L:vls (lL++[sL])=vls lL+sL.name.length:=by rw [vls_app];simp [nls,vls,tls]
         have hs3L:vls (sL::mL)=sL.name.length+vls mL:=by simp [nls,vls,tls]
         refine gK true (b:=intLt (lL.length:Int) (sT.locals.length:Int)) (lt_t (by omega)) ?_
         refine rk ?_
         obtain rfl:cL=[.string (str sL.name),.int .u8 sL.ty,.int .u64 sL.bits]:=hcL
         refine gV (.pointer (some ⟨gB sa,oB sa+lL.length*3,none⟩)) (S:=Instr.indexAt 22 (.slice sa sT.locals.length scap) (.int .i64 (lL.length:Int))) (fun W _=>idx_sl (e:=67) shs (by kernel_rfl) (by kernel_rfl) hinL W) ?_
         refine rk ?_
         refine gV (.string (str sL.name)) (S:=Instr.loadAt 9 (.pointer (some ⟨gB sa,oB sa+lL.length*3+0,none⟩))) (fun W hk=>load_sl shs (by kernel_rfl) lL.length 0 (hcellL 0 _ rfl) hk) ?_
         refine rk ?_
         refine gS 3 (x := .int .i64 (wrapF .i64 (((nls p.mutexes+vls p.shared+tls lT+sT.name.length+vls lL:Nat):Int)+((sL.name.length:Nat):Int)))) (.int .i64 (((nls p.mutexes+vls p.shared+tls lT+sT.name.length+vls (lL++[sL]):Nat):Int))) (by rw [wr64 (n:=((nls p.mutexes+vls p.shared+tls lT+sT.name.length+vls lL:Nat):Int)+((sL.name.length:Nat):Int)) (by omega) (by omega)];congr 1;omega) ?_
         refine gS 8 (x := .int .i64 (wrapF .i64 (((lL.length:Nat):Int)+1))) (.int .i64 ((((lL++[sL]).length:Nat):Int))) (by rw [wr64 (n:=((lL.length:Nat):Int)+1) (by omega) (by omega)];congr 1;simp) ?_
         exact gU _ [(1,.ptr gz 0),(3,.v (.int .i64 ((nls p.mutexes+vls p.shared+tls lT+sT.name.length+vls (lL++[sL]):Nat):Int))),(6,.v (.int .i64 ((lT.length:Nat):Int))),(7,.ptr (gz+1) 0),(8,.v (.int .i64 (((lL++[sL]).length:Nat):Int)))] [(gz,some (.cells 26 true true true 3 (putL .leaf 0 [.v (.slice a ns cap),.v (.slice b nm cap2),.v (.slice d nt cap3)]))),(gz+1,some (.cells 58 true true true 3 (putL .leaf 0 [.v (.string (str sT.name)),.v (.slice sa sT.locals.length scap),.v (.slice sb sT.body.length scap2)])))] (gz+2) (fun b hb=>hγ0 b (by have h:gz=Tryz.prog.globals.size:=rfl;omega)) (ihL (lL++[sL],mL) (by show sT.locals=(lL++[_])++mL;rw [hIL];simp) (by show mL.length<(_::mL).length;simp))
       | nil=>
         have hklL:lL=sT.locals:=by rw [hIL];simp
         have hn3L:sT.locals.length=lL.length:=by rw [hn2L];simp
         refine gK false (b:=intLt (lL.length:Int) (sT.locals.length:Int)) (lt_f (by omega)) ?_
         refine rk ?_
         refine gS 3 (x := .int .i64 ((nls p.mutexes+vls p.shared+tls lT+sT.name.length+vls lL:Nat):Int)) (.int .i64 ((nls p.mutexes+vls p.shared+tls (lT++[sT]):Nat):Int)) (by rw [hklL,hs2T];congr 1;omega) ?_
         refine gS 6 (x := .int .i64 (wrapF .i64 (((lT.length:Nat):Int)+1))) (.int .i64 ((((lT++[sT]).length:Nat):Int))) (by rw [wr64 (n:=((lT.length:Nat):Int)+1) (by omega) (by omega)];congr 1;simp) ?_
         exact gU _ [(1,.ptr gz 0),(3,.v (.int .i64 ((nls p.mutexes+vls p.shared+tls (lT++[sT]):Nat):Int))),(6,.v (.int .i64 (((lT++[sT]).length:Nat):Int)))] [(gz,some (.cells 26 true true true 3 (putL .leaf 0 [.v (.slice a ns cap),.v (.slice b nm cap2),.v (.slice d nt cap3)])))] (gz+1) (fun b hb=>hγ0 b (by have h:gz=Tryz.prog.globals.size:=rfl;omega)) (ihT (lT++[sT],mT) ⟨(by show p.threads=(lT++[_])++mT;rw [hIT];simp),fun t ht=>(List.mem_append.1 ht).elim (hall t) (fun h=>by rw [List.mem_singleton] at h;rw [h];exact h40)⟩ (by show mT.length<(_::mT).length;simp))
     | nil=>
       have hklT:lT=p.threads:=by rw [hIT];simp
       have hn3T:nt=lT.length:=by rw [hn2T];simp
       refine gK false (b:=intLt (lT.length:Int) (nt:Int)) (lt_f (by omega)) ?_
       refine rs [96] 60 0 ?_
       rcases Bool.eq_false_or_eq_true (intLt 4000 ((nls p.mutexes+vls p.shared+tls lT:Nat):Int)) with h5 | h5
       ·
        refine gS 94 (x := .bool (intLt 4000 ((nls p.mutexes+vls p.shared+tls lT:Nat):Int))) (.bool true) (by rw [h5]) ?_
        refine gS 95 (x := .bool (intLt 4000 ((nls p.mutexes+vls p.shared+tls lT:Nat):Int))) (.bool true) (by rw [h5]) ?_
        refine rs [] 60 4 ?_
        refine gR (.bool true) (fun W hk=>⟨?_,hk.below⟩)
        rw [lrg_t.2 (.inr (.inr (.inr (.inr (.inl (by have:=lt_of_t h5;rw [hklT] at this;omega))))))]
       refine gS 94 (x := .bool (intLt 4000 ((nls p.mutexes+vls p.shared+tls lT:Nat):Int))) (.bool false) (by rw [h5]) ?_
       refine gS 95 (x := .bool (intLt 4000 ((nls p.mutexes+vls p.shared+tls lT:Nat):Int))) (.bool false) (by rw [h5]) ?_
       refine rk ?_
       refine gX [.agg #[.slice a ns cap,.slice b nm cap2,.slice d nt cap3]] (.int .i64 ((pwt p:Nat):Int)) (fun W hk=>weightProgram_any p _ W (by omega) (hp0.keep hk (fun k h=>Nat.lt_of_lt_of_le h hk.size))) ?_
       refine rk ?_
       refine gR (.bool (intLt 6000 ((pwt p:Nat):Int))) (fun W hk=>⟨?_,hk.below⟩)
       have g1:=lt_of_f h1
       have g2:=lt_of_f h2
       have g3:=lt_of_f h3
       have g5:=lt_of_f h5
       rw [hklT] at hall g5
       rcases Bool.eq_false_or_eq_true (lrg p) with hL | hL
       · rw [hL]
         have hL:=lrg_t.1 hL
         rw [lt_t]
         unfold Lrg at hL
         rcases hL with h | h | h | ⟨t,ht,h⟩ | h | h
         · omega
         · omega
         · omega
         · have:=hall t ht;omega
         · omega
         · omega
       · rw [hL]
         have hL:=lrg_f.1 hL
         rw [lt_f]
         intro h
         exact hL (.inr (.inr (.inr (.inr (.inr (by omega))))))
end Go.Proofs.YtiacalnkmnckjaaGreatDoor
end
section
namespace Go.Proofs.YtiacalnkmnckjaaGreatDoor
open Go.RowKit Go.As
theorem run_eql_value (ox oy:Operand) (a b c d:Int) (w:World):
  (do eqGuard .eql 31 ox oy (.agg #[.int .u8 a,.int .u64 b]) (.agg #[.int .u8 c,.int .u64 d]);binOp .eql 31 (.agg #[.int .u8 a,.int .u64 b]) (.agg #[.int .u8 c,.int .u64 d]):Sem Value).run Tryz.prog w = .ok (.bool (vEq a b c d)) w:=by
 have h1:(eqGuard .eql 31 ox oy (.agg #[.int .u8 a,.int .u64 b]) (.agg #[.int .u8 c,.int .u64 d])).run Tryz.prog w = .ok () w:=by
  have:=valueGuard
  unfold eqGuard
  go_simp
 have h2:(binOp .eql 31 (.agg #[.int .u8 a,.int .u64 b]) (.agg #[.int .u8 c,.int .u64 d])).run Tryz.prog w = .ok (.bool (vEq a b c d)) w:=by
  rw [run_eql_struct,run_eqi_value]
  rfl
 exact Sy.eqG2 h1 h2
end Go.Proofs.YtiacalnkmnckjaaGreatDoor
end
section
namespace Go.Proofs.YtiacalnkmnckjaaGreatDoor
open Go.RowKit Go.As
theorem store_soft {P:Program} {ty:TypeId} (hz:Sy.szB P ty=some 1) {w:World} {b o:Nat} {c:Array Value} {e:TypeId} (hb:w.heap[b]?=some (.cells c e (0,0))) (ho:o<c.size) {v:Value} (hv:v.cells=#[v]) (h1:v.oneCell'=true):
  (Instr.storeAt ty (.pointer (some ⟨b,o,none⟩)) v).run P w = .ok () (w.setRow b (c.toList.take o++[v]++c.toList.drop (o+1)).toArray):=by
 have hst:=run_storeCells_at (P:=P) b o e [v] 0 c w hb (by simp only [List.length_cons,List.length_nil];omega) (by simpa using h1)
 simp only [Nat.add_zero,List.length_cons,List.length_nil,Nat.zero_add] at hst
 simp [Instr.storeAt,Instr.sureAddr,storeVar,Sy.szB_ok hz,hv,hst]
end Go.Proofs.YtiacalnkmnckjaaGreatDoor
end
section
namespace Go.Proofs.YtiacalnkmnckjaaGreatDoor
open Go.RowKit Go.As
theorem ld_pt {P:Program} {F:Nat→Prop} {w:World} {b o sz:Nat} {xs:List Value} {ty:TypeId} (h:Sy.SlAt F w (some ⟨b,o,none⟩) 1 sz xs) (hb:Sy.aggB P ty=some false) (j:Nat) {v:Value} (hv:xs[j]?=some v) {W:World} (hk:Sy.Keep F w W):
  (Instr.loadAt ty (.pointer (some ⟨b,o+j,none⟩))).run P W = .ok v W:=by
 have:=Sy.load_sl h hb 0 j (by simpa using hv) hk
 simpa [Sy.gB,Sy.oB] using this
end Go.Proofs.YtiacalnkmnckjaaGreatDoor
end
section
namespace Go.Proofs.YtiacalnkmnckjaaGreatDoor
open Go.RowKit Go.As
def evTab:List Nat:=[1,10,100,1000,10000,100000,1000000,10000000,100000000,1000000000,10000000000,100000000000,1000000000000,10000000000000,100000000000000,1000000000000000,10000000000000000,100000000000000000,1000000000000000000,10000000000000000000]
theorem tab_at {w:World} (h:Tab w):Sy.TabAt 1 evTab w:=by
 unfold Tab Lib.TabIs World.var? at h
 have hg:Tryz.prog.globalNamed "internal/strconv.uint64pow10" = some 1:=by kernel_rfl
 simp only [hg,Option.bind_some] at h
 have e:(Lib.pow10Tab.map fun z=>Value.int .u64 z).toArray=(evTab.map fun (n:Nat)=>Value.int .u64 (n:Int)).toArray:=by kernel_rfl
 rw [e] at h
 split at h
 · rename_i cs ty fz hh
   injection h with h
   subst h
   exact ⟨ty,fz,hh⟩
 · cases h
def syIT:Sy.Aux:=⟨evId,fun _ _=>none,Tab⟩
theorem sy_fineT:Sy.Fine Tryz.prog syIT:=Sy.fine_of evId_ok (fun f args av h=>by cases h) (fun w w' h hb=>h.below hb) (by kernel_rfl)
theorem sy_glob:1<Tryz.prog.globals.size:=of_decide_eq_true (by kernel_rfl)
set_option maxRecDepth 100000 in
theorem awake05_reckoned:Sy.okTrue (Sy.reckonT Tryz.prog syIT 1000 1 evTab 24 [])=true:=by kernel_rfl
theorem awake05_any (w:World) (ht:Tab w):Calls Tryz.prog 24 #[] w fun e w'=>e = .returned (.bool true)∧Below w.heap.size w w':=
 Sy.reckonT_true sy_mixed sy_fineT sy_glob Tryz.func24 (by kernel_rfl) awake05_reckoned w (tab_at ht) ht
end Go.Proofs.YtiacalnkmnckjaaGreatDoor
end
section
namespace Go.Proofs.YtiacalnkmnckjaaGreatDoor
open Go.RowKit Go.As
theorem ld_box {P:Program} {F:Nat→Prop} {w:World} {k n:Nat} {ty:TypeId} {cs:List Value} (h:Sy.SlAt F w (some ⟨k,0,none⟩) 1 n cs) (hb:Sy.aggB P ty=some true) (hs:Sy.szB P ty=some n) {W:World} (hk:Sy.Keep F w W):
  (Instr.loadAt ty (.pointer (some ⟨k,0,none⟩))).run P W = .ok (.agg cs.toArray) W:=by
 have:=Sy.load_slA h hb hs 0 0 (cs:=cs) (by have:=h.len;omega) (fun j v hv=>by simpa using hv) hk
 simpa [Sy.gB,Sy.oB] using this
theorem box_sl {F:Nat→Prop} {w:World} {k ty n:Nat} {vals:List Value} (h:w.heap[k]?=some (.cells vals.toArray ty (0,0))) (hF:F k) (hn:vals.length=n):Sy.SlAt F w (some ⟨k,0,none⟩) 1 n vals:=
 ⟨by omega,.inr ⟨rfl,hF,fun j v hv=>by
  simp only [World.cell?,Sy.gB,Sy.oB,Nat.zero_add]
  rw [h]
  simpa using hv⟩⟩
def seqR:Code→Code
 | .seq _ b=>b
 | c=>c
end Go.Proofs.YtiacalnkmnckjaaGreatDoor
end
section
namespace Go.Proofs.YtiacalnkmnckjaaGreatDoor
open Go.RowKit Go.As
noncomputable def okE (r:Nat) (e:Ex):Bool:=decide (hgt e≤r)&&(exT e).isSome
noncomputable def okEs (r:Nat) (l:List Ex):Bool:=decide (hgts l≤r)&&(exTs l).isSome
theorem okEs_nil (r:Nat):okEs r []=true:=by simp [okEs,hgts,exTs]
theorem okEs_cons (r:Nat) (e:Ex) (l:List Ex):okEs r (e::l)=(okE r e&&okEs r l):=by
 unfold okEs okE
 have hh:hgts (e::l)=max (hgt e) (hgts l):=by simp only [hgts]
 simp only [exTs]
 by_cases h1:hgt e≤r
 · by_cases h2:hgts l≤r
   · rw [decide_eq_true (show hgts (e::l)≤r by omega),decide_eq_true h1,decide_eq_true h2]
     cases exT e with
     | none=>rfl
     | some t=>cases exTs l <;> rfl
   · rw [decide_eq_false (show ¬ hgts (e::l)≤r by omega),decide_eq_false h2]
     simp
 · rw [decide_eq_false (show ¬ hgts (e::l)≤r by omega),decide_eq_false h1]
   simp
theorem okEs_app (r:Nat):∀ (l m:List Ex),okEs r (l++m)=(okEs r l&&okEs r m)
 | [],m=>by simp [okEs_nil]
 | e::l,m=>by rw [List.cons_append,okEs_cons,okEs_cons,okEs_app r l m,Bool.and_assoc]
theorem okE_zero (e:Ex):okE 0 e=false:=by
 cases e
 unfold okE
 simp [hgt]
noncomputable def litL (op ty:Int) (bn:Nat):Bool:=if op=1 then litB ty bn else vEq ty bn 0 0
noncomputable def namL (op:Int) (name:List UInt8):Bool:=if op=2 then nameB name else Sy.bEqL name []
theorem vEq_zero (ty:Int) (bn:Nat):vEq ty bn 0 0=true↔ty=0∧(bn:Int)=0:=by
 unfold vEq
 rw [Sy.intEq_eq,Sy.intEq_eq]
 simp
theorem bEq_nil (name:List UInt8):Sy.bEqL name []=true↔name=[]:=by
 rw [Sy.bEqL_eq]
 simp
theorem okE_mk (r:Nat) (op ty:Int) (bn:Nat) (name:List UInt8) (kids:List Ex) (hb:bn<18446744073709551616):
  okE (r+1) (.mk op ty bn name kids)=(decide (kidsN op=(kids.length:Int))&&(okEs r kids&&(litL op ty bn&&namL op name))):=by
 unfold okE okEs
 have hh:hgt (.mk op ty bn name kids)=hgts kids+1:=by simp only [hgt]
 by_cases h:hgts kids≤r
 · rw [decide_eq_true (show hgt (.mk op ty bn name kids)≤r+1 by omega),decide_eq_true h]
   simp only [exT,Bool.true_and]
   cases hx:exTs kids with
   | none=>simp
   | some ks=>
     have hl:=exTs_len hx
     simp only [Option.isSome_some,Bool.true_and]
     by_cases z1:op≠1∧¬ (ty=0∧(bn:Int)=0)
     · have:litL op ty bn=false:=by
        unfold litL
        rw [if_neg z1.1,← Bool.not_eq_true,vEq_zero]
        exact z1.2
       rw [this,if_pos (.inl z1)]
       simp
     by_cases z2:op≠2∧name≠[]
     · have:namL op name=false:=by
        unfold namL
        rw [if_neg z2.1,← Bool.not_eq_true,bEq_nil]
        exact z2.2
       rw [this,if_pos (.inr z2)]
       simp
     rw [if_neg (by rintro (h | h) <;> contradiction)]
     have hz:op≠1→litL op ty bn=true:=fun h=>by
      unfold litL
      rw [if_neg h,vEq_zero]
      exact Classical.byContradiction fun h'=>z1 ⟨h,h'⟩
     have hn:op≠2→namL op name=true:=fun h=>by
      unfold namL
      rw [if_neg h,bEq_nil]
      exact Classical.byContradiction fun h'=>z2 ⟨h,h'⟩
     have hk0:kids.length=ks.length:=hl.symm
     rw [hk0]
     by_cases c1:op=1
     · subst c1
       rw [if_pos rfl,hn (by decide),show kidsN 1=0 from rfl,show litL 1 ty bn=litB ty bn from rfl,(lit_plain ty bn hb).1]
       cases ks <;> simp <;> omega
     rw [if_neg c1]
     by_cases c2:op=2
     · subst c2
       rw [if_pos rfl,hz (by decide),show kidsN 2=0 from rfl,show namL 2 name=nameB name from rfl]
       cases ks with
       | nil=>cases nameB name <;> simp
       | cons a b=>simp;omega
     rw [if_neg c2,hz c1,hn c2]
     unfold kidsN
     rw [if_neg (show ¬ (op=1∨op=2) by omega)]
     by_cases c3:3≤op∧op≤15
     · rw [if_pos c3,if_pos c3]
       match ks with
       | []=>simp
       | [_]=>simp
       | [_,_]=>simp
       | _::_::_::l=>simp;omega
     rw [if_neg c3,if_neg c3]
     by_cases c4:16≤op∧op≤19
     · rw [if_pos c4]
       have h4:op=16∨op=17∨op=18∨op=19:=by omega
       match ks with
       | []=>rcases h4 with h | h | h | h <;> simp [h]
       | [_]=>rcases h4 with h | h | h | h <;> simp [h]
       | _::_::l=>rcases h4 with h | h | h | h <;> simp [h] <;> omega
     · rw [if_neg c4,if_neg (show ¬ op=16 by omega),if_neg (show ¬ op=17 by omega),if_neg (show ¬ op=18 by omega),if_neg (show ¬ op=19 by omega)]
       simp
 · rw [decide_eq_false (show ¬ hgt (.mk op ty bn name kids)≤r+1 by omega),decide_eq_false h]
   simp
theorem exBs_app:∀ (l r:List Ex),exBs (l++r)=exBs l+exBs r
 | [],r=>by simp [exBs]
 | e::l,r=>by
   rw [List.cons_append]
   simp only [exBs]
   rw [exBs_app l r]
   omega
open Go.Sy in
set_option maxRecDepth 100000 in
theorem zero_any (ty bits:Int) (w:World):Calls Tryz.prog 131 #[.agg #[.int .u8 ty,.int .u64 bits]] w fun e w'=>e = .returned (.bool (vEq ty bits 0 0))∧Below w.heap.size w w':=by
 refine Sy.enter (vs:=[.agg #[.int .u8 ty,.int .u64 bits]]) sy_fine Tryz.func131 rfl (fun γ=>norms_LR _) rfl (fun γ0 hγ0=>?_)
 refine rs [5] 60 0 ?_
 refine gV (.bool (vEq ty bits 0 0)) (S:=(do eqGuard .eql 31 (.tmp 3) (.tmp 4) (.agg #[.int .u8 ty,.int .u64 bits]) (.agg #[.int .u8 0,.int .u64 0]);binOp .eql 31 (.agg #[.int .u8 ty,.int .u64 bits]) (.agg #[.int .u8 0,.int .u64 0]))) (fun W _=>run_eql_value _ _ _ _ _ _ W) ?_
 refine rs [] 60 1 ?_
 exact gR (.bool (vEq ty bits 0 0)) (fun W hk=>⟨rfl,hk.below⟩)
open Go.Sy in
set_option maxRecDepth 100000 in
theorem texpr_any:∀ (N:Nat) (e:Ex) (cs:List Value) (r:Nat) (w:World),wgt e≤N→wgt e≤1000000000000→r≤1000→exB e≤1000000000000→exR e→Tab w→ExAt (·<w.heap.size) w e cs→
  Calls Tryz.prog 59 #[.agg cs.toArray,.int .i64 (r:Int)] w fun v w'=>∃ h,v = .returned (.tuple #[.int .i64 h,.bool (okE r e)])∧(okE r e=true→h=(hgt e:Nat))∧Below w.heap.size w w':=by
 intro N
 induction N with
 | zero=>intro e cs r w h;have:=wgt_pos e;omega
 | succ N ihN=>
   intro e cs r w hN hbd hr hB hR ht hat
   obtain ⟨op,ty,bits,name,kids⟩:=e
   simp only [ExAt] at hat
   obtain ⟨a,cap,xs,rfl,hsl,hks⟩:=hat
   simp only [exR] at hR
   obtain ⟨hop,hty,hbit,hkR⟩:=hR
   obtain ⟨bn,rfl⟩:∃ bn:Nat,bits=(bn:Int):=⟨bits.toNat,by omega⟩
   have hbn:bn<18446744073709551616:=by omega
   simp only [wgt] at hN hbd
   simp only [exB] at hB
   have hnm:name.length≤maxLen:=by unfold maxLen;omega
   obtain ⟨n,hn⟩:∃ n,n=kids.length:=⟨_,rfl⟩
   have hnl:=wgts_len kids
   rw [← hn] at hsl hnl ⊢
   refine Sy.enter (vs:=[.agg #[.int .u8 op,.int .u8 ty,.int .u64 (bn:Int),.string (str name),.slice a n cap],.int .i64 (r:Int)]) sy_fine Tryz.func59 rfl (fun γ=>norms_LR _) rfl (fun γ0 hγ0=>?_)
   refine rk ?_
   refine gP [.int .u8 op] (.int .i64 (kidsN op)) (fun W hk=>kids_any op W) ?_
   refine rs [20] 60 0 ?_
   by_cases hk0:kidsN op<0
   ·
    refine gS 18 (x := .bool (intLt (kidsN op) 0)) (.bool true) (by rw [lt_t hk0]) ?_
    refine gS 19 (x := .bool (intLt (kidsN op) 0)) (.bool true) (by rw [lt_t hk0]) ?_
    refine rs [] 60 4 ?_
    refine gR (.tuple #[.int .i64 0,.bool false]) (fun W hk=>⟨0,?_,fun h=>?_,hk.below⟩)
    · rw [show okE r (.mk op ty bn name kids)=false by cases r with | zero=>exact okE_zero _ | succ r=>rw [okE_mk _ _ _ _ _ _ hbn,decide_eq_false (by omega)];rfl]
    · rw [show okE r (.mk op ty bn name kids)=false by cases r with | zero=>exact okE_zero _ | succ r=>rw [okE_mk _ _ _ _ _ _ hbn,decide_eq_false (by omega)];rfl] at h;cases h
   refine gS 18 (x := .bool (intLt (kidsN op) 0)) (.bool false) (by rw [lt_f hk0]) ?_
   refine gS 19 (x := .bool (intLt (kidsN op) 0)) (.bool false) (by rw [lt_f hk0]) ?_
   refine rs [27] 60 0 ?_
   by_cases hk1:(n:Int)=kidsN op
   rotate_left
   ·
    refine gS 24 (x := .bool (!(intEq (n:Int) (kidsN op)))) (.bool true) (by rw [eq_f hk1];rfl) ?_
    refine gS 25 (x := .bool (!(intEq (n:Int) (kidsN op)))) (.bool true) (by rw [eq_f hk1];rfl) ?_
    refine gS 26 (x := .bool (!(intEq (n:Int) (kidsN op)))) (.bool true) (by rw [eq_f hk1];rfl) ?_
    refine rs [] 60 4 ?_
    refine gR (.tuple #[.int .i64 0,.bool false]) (fun W hk=>⟨0,?_,fun h=>?_,hk.below⟩)
    · rw [show okE r (.mk op ty bn name kids)=false by cases r with | zero=>exact okE_zero _ | succ r=>rw [okE_mk _ _ _ _ _ _ hbn,decide_eq_false (by omega)];rfl]
    · rw [show okE r (.mk op ty bn name kids)=false by cases r with | zero=>exact okE_zero _ | succ r=>rw [okE_mk _ _ _ _ _ _ hbn,decide_eq_false (by omega)];rfl] at h;cases h
   refine gS 24 (x := .bool (!(intEq (n:Int) (kidsN op)))) (.bool false) (by rw [eq_t hk1];rfl) ?_
   refine gS 25 (x := .bool (!(intEq (n:Int) (kidsN op)))) (.bool false) (by rw [eq_t hk1];rfl) ?_
   refine gS 26 (x := .bool (!(intEq (n:Int) (kidsN op)))) (.bool false) (by rw [eq_t hk1];rfl) ?_
   refine rk ?_
   cases r with
   | zero=>
     refine gK true (b:=intLt ((0:Nat):Int) 1) (rfl) ?_
     refine rs [] 60 1 ?_
     exact gR (.tuple #[.int .i64 0,.bool false]) (fun W hk=>⟨0,(congrArg (fun b=>Ending.returned (.tuple #[.int .i64 0,.bool b])) (okE_zero _).symm),(fun h=>by rw [okE_zero] at h;cases h),hk.below⟩)
   | succ r=>
     rw [okE_mk _ _ _ _ _ _ hbn,decide_eq_true (by omega),Bool.true_and]
     refine gK false (b:=intLt ((r+1:Nat):Int) 1) (lt_f (by omega)) ?_
     obtain ⟨L,hL⟩:∃ L,L=litL op ty bn:=⟨_,rfl⟩
     obtain ⟨M,hM⟩:∃ M,M=namL op name:=⟨_,rfl⟩
     rw [← hL,← hM]
     have hγ1:∀ b,gz+1≤b→γ0 b=none:=fun b hb=>hγ0 b (Nat.le_trans (Nat.le_succ _) hb)
     have tail:Go.Sy.Good Tryz.prog (·<w.heap.size) w γ0 Tryz.f59.ntmps (bodyPostD Tryz.prog Tryz.f59 (fun e w'=>∃ h,e = .returned (.tuple #[.int .i64 h,.bool (okEs r kids&&(L&&M))])∧((okEs r kids&&(L&&M))=true→h=(hgt (.mk op ty bn name kids):Nat))∧Below w.heap.size w w')) ⟨[.code (seqR (seqR (seqR (seqR (seqR (Tryz.f59.body.getD .skip))))))],⟨mkT [(1,.v (.int .i64 ((r+1:Nat):Int))),(2,.ptr gz 0),(7,.v (.bool L)),(8,.v (.bool M))],mkH [(gz,some (.cells 34 true true true 5 (putL .leaf 0 [.v (.int .u8 op),.v (.int .u8 ty),.v (.int .u64 (bn:Int)),.v (.string (str name)),.v (.slice a n cap)])))],gz+1,[]⟩⟩:=by
      refine rk ?_
      refine good_toLp ?_
      refine good_loopI (fun i:List Ex×List Ex=>i.2.length) (fun i=>kids=i.1++i.2∧okEs r i.1=true) (fun i=>⟨mkT [(1,.v (.int .i64 ((r+1:Nat):Int))),(7,.v (.bool L)),(8,.v (.bool M)),(9,.v (.int .i64 ((hgts i.1:Nat):Int))),(49,.v (.slice a n cap)),(50,.v (.int .i64 (n:Int))),(51,.v (.int .i64 (i.1.length:Int)))],mkH [(gz,some (.cells 34 true true true 5 (putL .leaf 0 [.v (.int .u8 op),.v (.int .u8 ty),.v (.int .u64 (bn:Int)),.v (.string (str name)),.v (.slice a n cap)])))],gz+1,[]⟩)
       ([],kids) ⟨rfl,okEs_nil r⟩ (by kernel_rfl)
       (fun h=>good_sub _ [(1,.v (.int .i64 ((r+1:Nat):Int))),(7,.v (.bool L)),(8,.v (.bool M)),(9,.v (.int .i64 ((hgts ([]:List Ex):Nat):Int))),(49,.v (.slice a n cap)),(50,.v (.int .i64 (n:Int))),(51,.v (.int .i64 (([]:List Ex).length:Int)))] [(gz,some (.cells 34 true true true 5 (putL .leaf 0 [.v (.int .u8 op),.v (.int .u8 ty),.v (.int .u64 (bn:Int)),.v (.string (str name)),.v (.slice a n cap)])))] (gz+1) rfl (by kernel_rfl) (by kernel_rfl) (by kernel_rfl) (by kernel_rfl) (by kernel_rfl) hγ1 (by kernel_rfl) h) ?_
      rintro ⟨l1,l2⟩ ⟨hI,hok⟩ ih
      have hI:kids=l1++l2:=hI
      have hok:okEs r l1=true:=hok
      have hn2:n=l1.length+l2.length:=by rw [hn,hI,List.length_append]
      have hw1:wgts kids=wgts l1+wgts l2:=by rw [hI,wgts_app]
      have hh1:=hgts_le l1
      have hh2:=hgts_le kids
      refine rk ?_
      cases l2 with
      | nil=>
        refine gK false (b:=intLt (l1.length:Int) (n:Int)) (lt_f (by simp at hn2;omega)) ?_
        refine rs [72] 60 0 ?_
        have hkl:l1=kids:=by rw [hI];simp
        have e1:hgt (.mk op ty bn name l1)=hgts l1+1:=by simp only [hgt]
        rw [← hkl] at hh2 ⊢
        rw [hok,Bool.true_and]
        cases L with
        | false=>
          refine rs [] 60 3 ?_
          refine gR (.tuple #[.int .i64 (wrapF .i64 ((hgts l1:Nat)+1)),.bool (false&&M)]) (fun W hk=>⟨_,rfl,fun _=>?_,hk.below⟩)
          rw [e1,wr64 (by omega) (by omega)]
          omega
        | true=>
          refine rs [] 60 3 ?_
          refine gR (.tuple #[.int .i64 (wrapF .i64 ((hgts l1:Nat)+1)),.bool (true&&M)]) (fun W hk=>⟨_,rfl,fun _=>?_,hk.below⟩)
          rw [e1,wr64 (by omega) (by omega)]
          omega
      | cons x l3=>
        have hin:l1.length<n:=by rw [hn2,List.length_cons];omega
        have hks2:=hks
        rw [hI] at hks2
        obtain ⟨c,hc,hcell⟩:=hks2.at_
        have hcl:=hc.len
        simp only [wgts] at hw1
        have hwe:=wgt_pos x
        have hhe:=hgt_le x
        have hxR:exR x:=exRs_mem.1 hkR x (by rw [hI];simp)
        refine gK true (b:=intLt (l1.length:Int) (n:Int)) (lt_t (by omega)) ?_
        refine rk ?_
        refine gV (.pointer (some ⟨gB a,oB a+l1.length*5,none⟩)) (S:=Instr.indexAt 32 (.slice a n cap) (.int .i64 (l1.length:Int))) (fun W _=>idx_sl (e:=34) hsl (by kernel_rfl) (by kernel_rfl) hin W) ?_
        refine rk ?_
        have hld:=fun W hk=>load_slA (P:=Tryz.prog) (ty:=34) (m:=5) (cs:=c) hsl (by kernel_rfl) (by kernel_rfl) l1.length 0 hcl hcell (W:=W) hk
        have hcall:=fun W hk=>ihN x c r W (by omega) (by omega) (by omega) (by rw [hI] at hB;simp only [exBs_app,exBs] at hB;omega) hxR (ht.below (Keep.below hk)) (hc.keep hk (fun k h=>Nat.lt_of_lt_of_le h hk.size))
        obtain ⟨op2,ty2,bits2,name2,kids2⟩:=x
        simp only [ExAt] at hc
        obtain ⟨a2,cap2,xs2,rfl,_⟩:=hc
        refine gV (.agg #[.int .u8 op2,.int .u8 ty2,.int .u64 bits2,.string (str name2),.slice a2 kids2.length cap2]) (S:=Instr.loadAt 34 (.pointer (some ⟨gB a,oB a+l1.length*5+0,none⟩))) (fun W hk=>hld W hk) ?_
        refine rs [59] 60 0 ?_
        refine gS 58 (x := .int .i64 (wrapF .i64 (((r+1:Nat):Int) - 1))) (.int .i64 (r:Int)) (by rw [wr64 (by omega) (by omega)];congr 1;omega) ?_
        refine gE [.agg #[.int .u8 op2,.int .u8 ty2,.int .u64 bits2,.string (str name2),.slice a2 kids2.length cap2],.int .i64 (r:Int)] (fun v=>∃ h,v = .tuple #[.int .i64 h,.bool (okE r (Ex.mk op2 ty2 bits2 name2 kids2))]∧(okE r (Ex.mk op2 ty2 bits2 name2 kids2)=true→h=(hgt (Ex.mk op2 ty2 bits2 name2 kids2):Nat))) (fun W hk=>(hcall W hk).mono fun e w' ⟨h,h1,h2,h3⟩=>⟨_,h1,⟨h,rfl,h2⟩,h3⟩) ?_
        rintro v w2 ⟨h,rfl,hh⟩ hk2
        cases hx:okE r (Ex.mk op2 ty2 bits2 name2 kids2) with
        | false=>
          refine rs [] 60 3 ?_
          have hall:okEs r kids=false:=by rw [hI,okEs_app,okEs_cons,hx];simp
          refine gR (.tuple #[.int .i64 0,.bool false]) (fun W hk=>⟨0,(by rw [hall];rfl),(fun h=>by rw [hall] at h;cases h),hk.below⟩)
        | true=>
          have hh:=hh hx
          subst hh
          refine rs [] 60 1 ?_
          have hs1:okEs r (l1++[(Ex.mk op2 ty2 bits2 name2 kids2)])=true:=by rw [okEs_app,okEs_cons,hok,hx,okEs_nil];rfl
          refine gS 9 (x := .int .i64 (if ((hgt (Ex.mk op2 ty2 bits2 name2 kids2):Nat):Int) > ((hgts l1:Nat):Int) then ((hgt (Ex.mk op2 ty2 bits2 name2 kids2):Nat):Int) else ((hgts l1:Nat):Int))) (.int .i64 ((hgts (l1++[(Ex.mk op2 ty2 bits2 name2 kids2)]):Nat):Int)) (by rw [hgts_snoc];congr 1;split <;> omega) ?_
          refine gS 51 (x := .int .i64 (wrapF .i64 ((l1.length:Int)+1))) (.int .i64 ((l1++[(Ex.mk op2 ty2 bits2 name2 kids2)]).length:Nat)) (by rw [wr64 (by omega) (by omega)];congr 1;simp) ?_
          exact gU _ [(1,.v (.int .i64 ((r+1:Nat):Int))),(7,.v (.bool L)),(8,.v (.bool M)),(9,.v (.int .i64 ((hgts (l1++[(Ex.mk op2 ty2 bits2 name2 kids2)]):Nat):Int))),(49,.v (.slice a n cap)),(50,.v (.int .i64 (n:Int))),(51,.v (.int .i64 ((l1++[(Ex.mk op2 ty2 bits2 name2 kids2)]).length:Int)))] [(gz,some (.cells 34 true true true 5 (putL .leaf 0 [.v (.int .u8 op),.v (.int .u8 ty),.v (.int .u64 (bn:Int)),.v (.string (str name)),.v (.slice a n cap)])))] (gz+1) hγ1 (ih (l1++[(Ex.mk op2 ty2 bits2 name2 kids2)],l3) ⟨by show kids=(l1++[_])++l3;rw [hI];simp,hs1⟩ (by show l3.length<(_::l3).length;simp))
     refine rk ?_
     refine good_draw sy_mixed (by kernel_rfl) ?_
     refine q_run [] 60 ?_
     refine qB [.agg #[.int .u8 ty,.int .u64 (bn:Int)]] (.bool (vEq ty (bn:Int) 0 0)) (fun W hk=>zero_any _ _ W) ?_
     refine q_run [] 60 ?_
     refine qE ?_
     refine rk ?_
     by_cases c1:op=1
     ·
      refine gK true (b:=intEq op 1) (eq_t c1) ?_
      refine rk ?_
      refine gX [.agg #[.int .u8 ty,.int .u64 (bn:Int)]] (.bool (litB ty bn)) (fun W hk=>tliteral_any ty bn hbn W (ht.below (Keep.below hk))) ?_
      refine rs [] 3 0 ?_
      refine gS 7 (x := .bool (litB ty bn)) (.bool L) (by rw [hL,litL,if_pos c1]) ?_
      refine gS 8 (x := .bool (bEqL name [])) (.bool M) (by rw [hM,namL,if_neg (by omega)]) ?_
      exact gU [.code (seqR (seqR (seqR (seqR (seqR (Tryz.f59.body.getD .skip))))))] [(1,.v (.int .i64 ((r+1:Nat):Int))),(2,.ptr gz 0),(7,.v (.bool L)),(8,.v (.bool M))] [(gz,some (.cells 34 true true true 5 (putL .leaf 0 [.v (.int .u8 op),.v (.int .u8 ty),.v (.int .u64 (bn:Int)),.v (.string (str name)),.v (.slice a n cap)])))] (gz+1) hγ1 tail
     refine gK false (b:=intEq op 1) (eq_f c1) ?_
     refine rk ?_
     by_cases c2:op=2
     ·
      refine gK true (b:=intEq op 2) (eq_t c2) ?_
      refine rk ?_
      refine gP [.string (str name)] (.bool (nameB name)) (fun W hk=>name_any name W hnm) ?_
      refine rs [] 3 0 ?_
      refine gS 7 (x := .bool (vEq ty (bn:Int) 0 0)) (.bool L) (by rw [hL,litL,if_neg c1]) ?_
      refine gS 8 (x := .bool (nameB name)) (.bool M) (by rw [hM,namL,if_pos c2]) ?_
      exact gU [.code (seqR (seqR (seqR (seqR (seqR (Tryz.f59.body.getD .skip))))))] [(1,.v (.int .i64 ((r+1:Nat):Int))),(2,.ptr gz 0),(7,.v (.bool L)),(8,.v (.bool M))] [(gz,some (.cells 34 true true true 5 (putL .leaf 0 [.v (.int .u8 op),.v (.int .u8 ty),.v (.int .u64 (bn:Int)),.v (.string (str name)),.v (.slice a n cap)])))] (gz+1) hγ1 tail
     refine gK false (b:=intEq op 2) (eq_f c2) ?_
     refine rs [] 2 0 ?_
     refine gS 7 (x := .bool (vEq ty (bn:Int) 0 0)) (.bool L) (by rw [hL,litL,if_neg c1]) ?_
     refine gS 8 (x := .bool (bEqL name [])) (.bool M) (by rw [hM,namL,if_neg c2]) ?_
     exact gU [.code (seqR (seqR (seqR (seqR (seqR (Tryz.f59.body.getD .skip))))))] [(1,.v (.int .i64 ((r+1:Nat):Int))),(2,.ptr gz 0),(7,.v (.bool L)),(8,.v (.bool M))] [(gz,some (.cells 34 true true true 5 (putL .leaf 0 [.v (.int .u8 op),.v (.int .u8 ty),.v (.int .u64 (bn:Int)),.v (.string (str name)),.v (.slice a n cap)])))] (gz+1) hγ1 tail
end Go.Proofs.YtiacalnkmnckjaaGreatDoor
end
section
namespace Go.Proofs.YtiacalnkmnckjaaGreatDoor
open Go.RowKit Go.As
open Go.Sy in
set_option maxRecDepth 100000 in
theorem idxSt_any (p:St→Bool) (q:Nat) (L:List (St)) (a:Option Addr) (n cap:Nat) (xs:List Value) (w:World) (hn:n=L.length) (hbd:n≤1000000000000) (hsl:SlAt (·<w.heap.size) w a n 9 xs) (hks:LsAt (StAt (·<w.heap.size) w) L xs) (hf:∀ x∈L,∀ cs W,Sy.Keep (·<w.heap.size) w W→StAt (·<W.heap.size) W x cs→Calls Tryz.prog 193 #[.agg cs.toArray,.pointer (some ⟨q,0,none⟩)] W fun e w'=>e = .returned (.bool (p x))∧Below W.heap.size W w'):
  Calls Tryz.prog 223 #[.slice a n cap,.func (.func 193) #[] #[.pointer (some ⟨q,0,none⟩)]] w fun e w'=>∃ i:Int,e = .returned (.int .i64 i)∧L.any p=decide (0≤i)∧Below w.heap.size w w':=by
 refine Sy.enter (vs:=[.slice a n cap,.func (.func 193) #[] #[.pointer (some ⟨q,0,none⟩)]]) sy_fine Tryz.func223 rfl (fun γ=>norms_LR _) rfl (fun γ0 hγ0=>?_)
 refine rk ?_
 refine good_toLp ?_
 refine good_loopI (fun i:List (St)×List (St)=>i.2.length) (fun i=>L=i.1++i.2∧i.1.any p=false) (fun i=>⟨mkT [(0,.v (.slice a n cap)),(1,norm (.func (.func 193) #[] #[.pointer (some ⟨q,0,none⟩)])),(7,.v (.int .i64 (n:Int))),(8,.v (.int .i64 (i.1.length:Int)))],mkH [],gz,[]⟩)
  ([],L) ⟨rfl,rfl⟩ (by kernel_rfl)
  (fun h=>good_sub _ [(0,.v (.slice a n cap)),(1,norm (.func (.func 193) #[] #[.pointer (some ⟨q,0,none⟩)])),(7,.v (.int .i64 (n:Int))),(8,.v (.int .i64 (([]:List (St)).length:Int)))] [] gz rfl (by kernel_rfl) (by kernel_rfl) (by kernel_rfl) (by kernel_rfl) (by kernel_rfl) hγ0 (by kernel_rfl) h) ?_
 rintro ⟨l1,l2⟩ ⟨hI,hany⟩ ih
 have hI:L=l1++l2:=hI
 have hany:l1.any p=false:=hany
 have hn2:n=l1.length+l2.length:=by rw [hn,hI,List.length_append]
 refine rk ?_
 cases l2 with
 | nil=>
   refine gK false (b:=intLt (l1.length:Int) (n:Int)) (lt_f (by simp at hn2;omega)) ?_
   refine rk ?_
   exact gR (.int .i64 (-1)) (fun W hk=>⟨_,rfl,(by rw [hI,List.append_nil,hany];rfl),hk.below⟩)
 | cons x l3=>
   have hin:l1.length<n:=by rw [hn2,List.length_cons];omega
   have hks2:=hks
   rw [hI] at hks2
   obtain ⟨c,hc,hcell⟩:=LsAt.at_ (k:=9) (fun _ _ h=>h.len) hks2
   have hcall:=fun W (hk:Keep (·<w.heap.size) w W)=>hf x (by rw [hI];simp) c W hk (hc.keep hk (fun k h=>Nat.lt_of_lt_of_le h hk.size))
   refine gK true (b:=intLt (l1.length:Int) (n:Int)) (lt_t (by omega)) ?_
   refine rk ?_
   refine gV (.pointer (some ⟨gB a,oB a+l1.length*9,none⟩)) (S:=Instr.indexAt 54 (.slice a n cap) (.int .i64 (l1.length:Int))) (fun W _=>idx_sl (e:=56) hsl (by kernel_rfl) (by kernel_rfl) hin W) ?_
   refine rk ?_
   obtain ⟨ukind,usn,⟨uop,uty,ubits,uen,uek⟩,ubody,uels⟩:=x
   simp only [StAt] at hc
   obtain ⟨ucs,uba,ubc,ubx,ula,ulc,ulx,rfl,uhe,_⟩:=hc
   simp only [ExAt] at uhe
   obtain ⟨uea,uec,uex,rfl,_⟩:=uhe
   refine gV (.agg #[.int .i64 ukind,.string (str usn),.int .u8 uop,.int .u8 uty,.int .u64 ubits,.string (str uen),.slice uea uek.length uec,.slice uba ubody.length ubc,.slice ula uels.length ulc]) (S:=Instr.loadAt 56 (.pointer (some ⟨gB a,oB a+l1.length*9+0,none⟩))) (fun W hk=>load_slA (P:=Tryz.prog) (ty:=56) (m:=9) (cs:=[.int .i64 ukind,.string (str usn),.int .u8 uop,.int .u8 uty,.int .u64 ubits,.string (str uen),.slice uea uek.length uec,.slice uba ubody.length ubc,.slice ula uels.length ulc]) hsl (by kernel_rfl) (by kernel_rfl) l1.length 0 rfl hcell hk) ?_
   refine rk ?_
   cases hp:p (St.mk ukind usn (Ex.mk uop uty ubits uen uek) ubody uels) with
   | true=>
     refine gX [.agg #[.int .i64 ukind,.string (str usn),.int .u8 uop,.int .u8 uty,.int .u64 ubits,.string (str uen),.slice uea uek.length uec,.slice uba ubody.length ubc,.slice ula uels.length ulc],.pointer (some ⟨q,0,none⟩)] (.bool true) (fun W hk=>by have:=hcall W hk;rw [hp] at this;exact this) ?_
     refine rs [] 60 3 ?_
     exact gR (.int .i64 (l1.length:Int)) (fun W hk=>⟨_,rfl,(by rw [hI,List.any_append,List.any_cons,hp,hany,decide_eq_true (by omega)];rfl),hk.below⟩)
   | false=>
     refine gX [.agg #[.int .i64 ukind,.string (str usn),.int .u8 uop,.int .u8 uty,.int .u64 ubits,.string (str uen),.slice uea uek.length uec,.slice uba ubody.length ubc,.slice ula uels.length ulc],.pointer (some ⟨q,0,none⟩)] (.bool false) (fun W hk=>by have:=hcall W hk;rw [hp] at this;exact this) ?_
     refine rs [] 60 1 ?_
     refine gS 8 (x := .int .i64 (wrapF .i64 ((l1.length:Int)+1))) (.int .i64 ((l1++[(St.mk ukind usn (Ex.mk uop uty ubits uen uek) ubody uels)]).length:Nat)) (by rw [wr64 (by omega) (by omega)];congr 1;simp) ?_
     exact gU _ [(0,.v (.slice a n cap)),(1,norm (.func (.func 193) #[] #[.pointer (some ⟨q,0,none⟩)])),(7,.v (.int .i64 (n:Int))),(8,.v (.int .i64 ((l1++[(St.mk ukind usn (Ex.mk uop uty ubits uen uek) ubody uels)]).length:Int)))] [] gz hγ0 (ih (l1++[(St.mk ukind usn (Ex.mk uop uty ubits uen uek) ubody uels)],l3) ⟨by show L=(l1++[_])++l3;rw [hI];simp,by show (l1++[_]).any p=false;rw [List.any_append,hany,List.any_cons,hp];rfl⟩ (by show l3.length<(_::l3).length;simp))
open Go.Sy in
set_option maxRecDepth 100000 in
theorem conSt_any (p:St→Bool) (q:Nat) (L:List (St)) (a:Option Addr) (n cap:Nat) (xs:List Value) (w:World) (hn:n=L.length) (hbd:n≤1000000000000) (hsl:SlAt (·<w.heap.size) w a n 9 xs) (hks:LsAt (StAt (·<w.heap.size) w) L xs) (hf:∀ x∈L,∀ cs W,Sy.Keep (·<w.heap.size) w W→StAt (·<W.heap.size) W x cs→Calls Tryz.prog 193 #[.agg cs.toArray,.pointer (some ⟨q,0,none⟩)] W fun e w'=>e = .returned (.bool (p x))∧Below W.heap.size W w'):
  Calls Tryz.prog 192 #[.slice a n cap,.func (.func 193) #[] #[.pointer (some ⟨q,0,none⟩)]] w fun e w'=>e = .returned (.bool (L.any p))∧Below w.heap.size w w':=by
 refine Sy.enter (vs:=[.slice a n cap,.func (.func 193) #[] #[.pointer (some ⟨q,0,none⟩)]]) sy_fine Tryz.func192 rfl (fun γ=>norms_LR _) rfl (fun γ0 hγ0=>?_)
 refine rk ?_
 refine gN [.slice a n cap,.func (.func 193) #[] #[.pointer (some ⟨q,0,none⟩)]] (fun v=>∃ i:Int,v = .int .i64 i∧L.any p=decide (0≤i)) (fun W hk=>(idxSt_any p q L a n cap xs W hn hbd ((hsl.keep hk).mono fun k h=>Nat.lt_of_lt_of_le h hk.size) (hks.imp fun x c hc=>hc.keep hk (fun k h=>Nat.lt_of_lt_of_le h hk.size)) (fun x hx cs W2 hk2=>hf x hx cs W2 (hk.trans (hk2.mono fun k h=>Nat.lt_of_lt_of_le h hk.size)))).mono fun e w' ⟨i,h1,h2,h3⟩=>⟨_,h1,⟨i,rfl,h2⟩,h3⟩) ?_
 rintro v w2 ⟨i,rfl,hi⟩ hk2
 refine rk ?_
 refine gR (.bool (!(intLt i 0))) (fun W hk=>⟨?_,hk.below⟩)
 rw [hi,intLt_eq]
 by_cases h:0≤i
 · rw [decide_eq_true h,decide_eq_false (by omega)]
   rfl
 · rw [decide_eq_false h,decide_eq_true (by omega)]
   rfl
open Go.Sy in
set_option maxRecDepth 100000 in
theorem idxVr_any (p:Vr→Bool) (L:List (Vr)) (a:Option Addr) (n cap:Nat) (xs:List Value) (w:World) (hn:n=L.length) (hbd:n≤1000000000000) (hsl:SlAt (·<w.heap.size) w a n 3 xs) (hks:LsAt (VrAt) L xs) (hf:∀ x∈L,∀ cs W,Sy.Keep (·<w.heap.size) w W→VrAt x cs→Calls Tryz.prog 115 #[.agg cs.toArray] W fun e w'=>e = .returned (.bool (p x))∧Below W.heap.size W w'):
  Calls Tryz.prog 187 #[.slice a n cap,.func (.func 115) #[] #[]] w fun e w'=>∃ i:Int,e = .returned (.int .i64 i)∧L.any p=decide (0≤i)∧Below w.heap.size w w':=by
 refine Sy.enter (vs:=[.slice a n cap,.func (.func 115) #[] #[]]) sy_fine Tryz.func187 rfl (fun γ=>norms_LR _) rfl (fun γ0 hγ0=>?_)
 refine rk ?_
 refine good_toLp ?_
 refine good_loopI (fun i:List (Vr)×List (Vr)=>i.2.length) (fun i=>L=i.1++i.2∧i.1.any p=false) (fun i=>⟨mkT [(0,.v (.slice a n cap)),(1,norm (.func (.func 115) #[] #[])),(7,.v (.int .i64 (n:Int))),(8,.v (.int .i64 (i.1.length:Int)))],mkH [],gz,[]⟩)
  ([],L) ⟨rfl,rfl⟩ (by kernel_rfl)
  (fun h=>good_sub _ [(0,.v (.slice a n cap)),(1,norm (.func (.func 115) #[] #[])),(7,.v (.int .i64 (n:Int))),(8,.v (.int .i64 (([]:List (Vr)).length:Int)))] [] gz rfl (by kernel_rfl) (by kernel_rfl) (by kernel_rfl) (by kernel_rfl) (by kernel_rfl) hγ0 (by kernel_rfl) h) ?_
 rintro ⟨l1,l2⟩ ⟨hI,hany⟩ ih
 have hI:L=l1++l2:=hI
 have hany:l1.any p=false:=hany
 have hn2:n=l1.length+l2.length:=by rw [hn,hI,List.length_append]
 refine rk ?_
 cases l2 with
 | nil=>
   refine gK false (b:=intLt (l1.length:Int) (n:Int)) (lt_f (by simp at hn2;omega)) ?_
   refine rk ?_
   exact gR (.int .i64 (-1)) (fun W hk=>⟨_,rfl,(by rw [hI,List.append_nil,hany];rfl),hk.below⟩)
 | cons x l3=>
   have hin:l1.length<n:=by rw [hn2,List.length_cons];omega
   have hks2:=hks
   rw [hI] at hks2
   obtain ⟨c,hc,hcell⟩:=LsAt.at_ (k:=3) (fun _ _ h=>h.len) hks2
   have hcall:=fun W (hk:Keep (·<w.heap.size) w W)=>hf x (by rw [hI];simp) c W hk (hc)
   refine gK true (b:=intLt (l1.length:Int) (n:Int)) (lt_t (by omega)) ?_
   refine rk ?_
   refine gV (.pointer (some ⟨gB a,oB a+l1.length*3,none⟩)) (S:=Instr.indexAt 22 (.slice a n cap) (.int .i64 (l1.length:Int))) (fun W _=>idx_sl (e:=67) hsl (by kernel_rfl) (by kernel_rfl) hin W) ?_
   refine rk ?_
   obtain ⟨uname,uty,ubits⟩:=x
   obtain rfl:c=[.string (str uname),.int .u8 uty,.int .u64 ubits]:=hc
   refine gV (.agg #[.string (str uname),.int .u8 uty,.int .u64 ubits]) (S:=Instr.loadAt 67 (.pointer (some ⟨gB a,oB a+l1.length*3+0,none⟩))) (fun W hk=>load_slA (P:=Tryz.prog) (ty:=67) (m:=3) (cs:=[.string (str uname),.int .u8 uty,.int .u64 ubits]) hsl (by kernel_rfl) (by kernel_rfl) l1.length 0 rfl hcell hk) ?_
   refine rk ?_
   cases hp:p (Vr.mk uname uty ubits) with
   | true=>
     refine gX [.agg #[.string (str uname),.int .u8 uty,.int .u64 ubits]] (.bool true) (fun W hk=>by have:=hcall W hk;rw [hp] at this;exact this) ?_
     refine rs [] 60 3 ?_
     exact gR (.int .i64 (l1.length:Int)) (fun W hk=>⟨_,rfl,(by rw [hI,List.any_append,List.any_cons,hp,hany,decide_eq_true (by omega)];rfl),hk.below⟩)
   | false=>
     refine gX [.agg #[.string (str uname),.int .u8 uty,.int .u64 ubits]] (.bool false) (fun W hk=>by have:=hcall W hk;rw [hp] at this;exact this) ?_
     refine rs [] 60 1 ?_
     refine gS 8 (x := .int .i64 (wrapF .i64 ((l1.length:Int)+1))) (.int .i64 ((l1++[(Vr.mk uname uty ubits)]).length:Nat)) (by rw [wr64 (by omega) (by omega)];congr 1;simp) ?_
     exact gU _ [(0,.v (.slice a n cap)),(1,norm (.func (.func 115) #[] #[])),(7,.v (.int .i64 (n:Int))),(8,.v (.int .i64 ((l1++[(Vr.mk uname uty ubits)]).length:Int)))] [] gz hγ0 (ih (l1++[(Vr.mk uname uty ubits)],l3) ⟨by show L=(l1++[_])++l3;rw [hI];simp,by show (l1++[_]).any p=false;rw [List.any_append,hany,List.any_cons,hp];rfl⟩ (by show l3.length<(_::l3).length;simp))
open Go.Sy in
set_option maxRecDepth 100000 in
theorem conVr_any (p:Vr→Bool) (L:List (Vr)) (a:Option Addr) (n cap:Nat) (xs:List Value) (w:World) (hn:n=L.length) (hbd:n≤1000000000000) (hsl:SlAt (·<w.heap.size) w a n 3 xs) (hks:LsAt (VrAt) L xs) (hf:∀ x∈L,∀ cs W,Sy.Keep (·<w.heap.size) w W→VrAt x cs→Calls Tryz.prog 115 #[.agg cs.toArray] W fun e w'=>e = .returned (.bool (p x))∧Below W.heap.size W w'):
  Calls Tryz.prog 117 #[.slice a n cap,.func (.func 115) #[] #[]] w fun e w'=>e = .returned (.bool (L.any p))∧Below w.heap.size w w':=by
 refine Sy.enter (vs:=[.slice a n cap,.func (.func 115) #[] #[]]) sy_fine Tryz.func117 rfl (fun γ=>norms_LR _) rfl (fun γ0 hγ0=>?_)
 refine rk ?_
 refine gN [.slice a n cap,.func (.func 115) #[] #[]] (fun v=>∃ i:Int,v = .int .i64 i∧L.any p=decide (0≤i)) (fun W hk=>(idxVr_any p L a n cap xs W hn hbd ((hsl.keep hk).mono fun k h=>Nat.lt_of_lt_of_le h hk.size) (hks.imp fun x c hc=>hc) (fun x hx cs W2 hk2=>hf x hx cs W2 (hk.trans (hk2.mono fun k h=>Nat.lt_of_lt_of_le h hk.size)))).mono fun e w' ⟨i,h1,h2,h3⟩=>⟨_,h1,⟨i,rfl,h2⟩,h3⟩) ?_
 rintro v w2 ⟨i,rfl,hi⟩ hk2
 refine rk ?_
 refine gR (.bool (!(intLt i 0))) (fun W hk=>⟨?_,hk.below⟩)
 rw [hi,intLt_eq]
 by_cases h:0≤i
 · rw [decide_eq_true h,decide_eq_false (by omega)]
   rfl
 · rw [decide_eq_false h,decide_eq_true (by omega)]
   rfl
open Go.Sy in
set_option maxRecDepth 100000 in
theorem idxTx_any (p:List UInt8→Bool) (L:List (List UInt8)) (a:Option Addr) (n cap:Nat) (xs:List Value) (w:World) (hn:n=L.length) (hbd:n≤1000000000000) (hsl:SlAt (·<w.heap.size) w a n 1 xs) (hks:LsAt (TxAt) L xs) (hf:∀ x∈L,∀ cs W,Sy.Keep (·<w.heap.size) w W→TxAt x cs→Calls Tryz.prog 119 (cs.toArray) W fun e w'=>e = .returned (.bool (p x))∧Below W.heap.size W w'):
  Calls Tryz.prog 188 #[.slice a n cap,.func (.func 119) #[] #[]] w fun e w'=>∃ i:Int,e = .returned (.int .i64 i)∧L.any p=decide (0≤i)∧Below w.heap.size w w':=by
 refine Sy.enter (vs:=[.slice a n cap,.func (.func 119) #[] #[]]) sy_fine Tryz.func188 rfl (fun γ=>norms_LR _) rfl (fun γ0 hγ0=>?_)
 refine rk ?_
 refine good_toLp ?_
 refine good_loopI (fun i:List (List UInt8)×List (List UInt8)=>i.2.length) (fun i=>L=i.1++i.2∧i.1.any p=false) (fun i=>⟨mkT [(0,.v (.slice a n cap)),(1,norm (.func (.func 119) #[] #[])),(7,.v (.int .i64 (n:Int))),(8,.v (.int .i64 (i.1.length:Int)))],mkH [],gz,[]⟩)
  ([],L) ⟨rfl,rfl⟩ (by kernel_rfl)
  (fun h=>good_sub _ [(0,.v (.slice a n cap)),(1,norm (.func (.func 119) #[] #[])),(7,.v (.int .i64 (n:Int))),(8,.v (.int .i64 (([]:List (List UInt8)).length:Int)))] [] gz rfl (by kernel_rfl) (by kernel_rfl) (by kernel_rfl) (by kernel_rfl) (by kernel_rfl) hγ0 (by kernel_rfl) h) ?_
 rintro ⟨l1,l2⟩ ⟨hI,hany⟩ ih
 have hI:L=l1++l2:=hI
 have hany:l1.any p=false:=hany
 have hn2:n=l1.length+l2.length:=by rw [hn,hI,List.length_append]
 refine rk ?_
 cases l2 with
 | nil=>
   refine gK false (b:=intLt (l1.length:Int) (n:Int)) (lt_f (by simp at hn2;omega)) ?_
   refine rk ?_
   exact gR (.int .i64 (-1)) (fun W hk=>⟨_,rfl,(by rw [hI,List.append_nil,hany];rfl),hk.below⟩)
 | cons x l3=>
   have hin:l1.length<n:=by rw [hn2,List.length_cons];omega
   have hks2:=hks
   rw [hI] at hks2
   obtain ⟨c,hc,hcell⟩:=LsAt.at_ (k:=1) (fun _ _ h=>h.len) hks2
   have hcall:=fun W (hk:Keep (·<w.heap.size) w W)=>hf x (by rw [hI];simp) c W hk (hc)
   refine gK true (b:=intLt (l1.length:Int) (n:Int)) (lt_t (by omega)) ?_
   refine rk ?_
   refine gV (.pointer (some ⟨gB a,oB a+l1.length*1,none⟩)) (S:=Instr.indexAt 23 (.slice a n cap) (.int .i64 (l1.length:Int))) (fun W _=>idx_sl (e:=9) hsl (by kernel_rfl) (by kernel_rfl) hin W) ?_
   refine rk ?_
   obtain rfl:c=[.string (str x)]:=hc
   refine gV (.string (str x)) (S:=Instr.loadAt 9 (.pointer (some ⟨gB a,oB a+l1.length*1+0,none⟩))) (fun W hk=>load_sl hsl (by kernel_rfl) l1.length 0 (hcell 0 _ rfl) hk) ?_
   refine rk ?_
   cases hp:p x with
   | true=>
     refine gX [.string (str x)] (.bool true) (fun W hk=>by have:=hcall W hk;rw [hp] at this;exact this) ?_
     refine rs [] 60 3 ?_
     exact gR (.int .i64 (l1.length:Int)) (fun W hk=>⟨_,rfl,(by rw [hI,List.any_append,List.any_cons,hp,hany,decide_eq_true (by omega)];rfl),hk.below⟩)
   | false=>
     refine gX [.string (str x)] (.bool false) (fun W hk=>by have:=hcall W hk;rw [hp] at this;exact this) ?_
     refine rs [] 60 1 ?_
     refine gS 8 (x := .int .i64 (wrapF .i64 ((l1.length:Int)+1))) (.int .i64 ((l1++[x]).length:Nat)) (by rw [wr64 (by omega) (by omega)];congr 1;simp) ?_
     exact gU _ [(0,.v (.slice a n cap)),(1,norm (.func (.func 119) #[] #[])),(7,.v (.int .i64 (n:Int))),(8,.v (.int .i64 ((l1++[x]).length:Int)))] [] gz hγ0 (ih (l1++[x],l3) ⟨by show L=(l1++[_])++l3;rw [hI];simp,by show (l1++[_]).any p=false;rw [List.any_append,hany,List.any_cons,hp];rfl⟩ (by show l3.length<(_::l3).length;simp))
open Go.Sy in
set_option maxRecDepth 100000 in
theorem conTx_any (p:List UInt8→Bool) (L:List (List UInt8)) (a:Option Addr) (n cap:Nat) (xs:List Value) (w:World) (hn:n=L.length) (hbd:n≤1000000000000) (hsl:SlAt (·<w.heap.size) w a n 1 xs) (hks:LsAt (TxAt) L xs) (hf:∀ x∈L,∀ cs W,Sy.Keep (·<w.heap.size) w W→TxAt x cs→Calls Tryz.prog 119 (cs.toArray) W fun e w'=>e = .returned (.bool (p x))∧Below W.heap.size W w'):
  Calls Tryz.prog 118 #[.slice a n cap,.func (.func 119) #[] #[]] w fun e w'=>e = .returned (.bool (L.any p))∧Below w.heap.size w w':=by
 refine Sy.enter (vs:=[.slice a n cap,.func (.func 119) #[] #[]]) sy_fine Tryz.func118 rfl (fun γ=>norms_LR _) rfl (fun γ0 hγ0=>?_)
 refine rk ?_
 refine gN [.slice a n cap,.func (.func 119) #[] #[]] (fun v=>∃ i:Int,v = .int .i64 i∧L.any p=decide (0≤i)) (fun W hk=>(idxTx_any p L a n cap xs W hn hbd ((hsl.keep hk).mono fun k h=>Nat.lt_of_lt_of_le h hk.size) (hks.imp fun x c hc=>hc) (fun x hx cs W2 hk2=>hf x hx cs W2 (hk.trans (hk2.mono fun k h=>Nat.lt_of_lt_of_le h hk.size)))).mono fun e w' ⟨i,h1,h2,h3⟩=>⟨_,h1,⟨i,rfl,h2⟩,h3⟩) ?_
 rintro v w2 ⟨i,rfl,hi⟩ hk2
 refine rk ?_
 refine gR (.bool (!(intLt i 0))) (fun W hk=>⟨?_,hk.below⟩)
 rw [hi,intLt_eq]
 by_cases h:0≤i
 · rw [decide_eq_true h,decide_eq_false (by omega)]
   rfl
 · rw [decide_eq_false h,decide_eq_true (by omega)]
   rfl
open Go.Sy in
set_option maxRecDepth 100000 in
theorem idxTh_any (p:Th→Bool) (q:Nat) (L:List (Th)) (a:Option Addr) (n cap:Nat) (xs:List Value) (w:World) (hn:n=L.length) (hbd:n≤1000000000000) (hsl:SlAt (·<w.heap.size) w a n 3 xs) (hks:LsAt (ThAt (·<w.heap.size) w) L xs) (hf:∀ x∈L,∀ cs W,Sy.Keep (·<w.heap.size) w W→ThAt (·<W.heap.size) W x cs→Calls Tryz.prog 122 #[.agg cs.toArray,.pointer (some ⟨q,0,none⟩)] W fun e w'=>e = .returned (.bool (p x))∧Below W.heap.size W w'):
  Calls Tryz.prog 191 #[.slice a n cap,.func (.func 122) #[] #[.pointer (some ⟨q,0,none⟩)]] w fun e w'=>∃ i:Int,e = .returned (.int .i64 i)∧L.any p=decide (0≤i)∧Below w.heap.size w w':=by
 refine Sy.enter (vs:=[.slice a n cap,.func (.func 122) #[] #[.pointer (some ⟨q,0,none⟩)]]) sy_fine Tryz.func191 rfl (fun γ=>norms_LR _) rfl (fun γ0 hγ0=>?_)
 refine rk ?_
 refine good_toLp ?_
 refine good_loopI (fun i:List (Th)×List (Th)=>i.2.length) (fun i=>L=i.1++i.2∧i.1.any p=false) (fun i=>⟨mkT [(0,.v (.slice a n cap)),(1,norm (.func (.func 122) #[] #[.pointer (some ⟨q,0,none⟩)])),(7,.v (.int .i64 (n:Int))),(8,.v (.int .i64 (i.1.length:Int)))],mkH [],gz,[]⟩)
  ([],L) ⟨rfl,rfl⟩ (by kernel_rfl)
  (fun h=>good_sub _ [(0,.v (.slice a n cap)),(1,norm (.func (.func 122) #[] #[.pointer (some ⟨q,0,none⟩)])),(7,.v (.int .i64 (n:Int))),(8,.v (.int .i64 (([]:List (Th)).length:Int)))] [] gz rfl (by kernel_rfl) (by kernel_rfl) (by kernel_rfl) (by kernel_rfl) (by kernel_rfl) hγ0 (by kernel_rfl) h) ?_
 rintro ⟨l1,l2⟩ ⟨hI,hany⟩ ih
 have hI:L=l1++l2:=hI
 have hany:l1.any p=false:=hany
 have hn2:n=l1.length+l2.length:=by rw [hn,hI,List.length_append]
 refine rk ?_
 cases l2 with
 | nil=>
   refine gK false (b:=intLt (l1.length:Int) (n:Int)) (lt_f (by simp at hn2;omega)) ?_
   refine rk ?_
   exact gR (.int .i64 (-1)) (fun W hk=>⟨_,rfl,(by rw [hI,List.append_nil,hany];rfl),hk.below⟩)
 | cons x l3=>
   have hin:l1.length<n:=by rw [hn2,List.length_cons];omega
   have hks2:=hks
   rw [hI] at hks2
   obtain ⟨c,hc,hcell⟩:=LsAt.at_ (k:=3) (fun _ _ h=>h.len) hks2
   have hcall:=fun W (hk:Keep (·<w.heap.size) w W)=>hf x (by rw [hI];simp) c W hk (hc.keep hk (fun k h=>Nat.lt_of_lt_of_le h hk.size))
   refine gK true (b:=intLt (l1.length:Int) (n:Int)) (lt_t (by omega)) ?_
   refine rk ?_
   refine gV (.pointer (some ⟨gB a,oB a+l1.length*3,none⟩)) (S:=Instr.indexAt 24 (.slice a n cap) (.int .i64 (l1.length:Int))) (fun W _=>idx_sl (e:=58) hsl (by kernel_rfl) (by kernel_rfl) hin W) ?_
   refine rk ?_
   obtain ⟨uname,uloc,ubody⟩:=x
   obtain ⟨ua,ucap,uxs,ub,ucap2,uys,rfl,_⟩:=hc
   refine gV (.agg #[.string (str uname),.slice ua uloc.length ucap,.slice ub ubody.length ucap2]) (S:=Instr.loadAt 58 (.pointer (some ⟨gB a,oB a+l1.length*3+0,none⟩))) (fun W hk=>load_slA (P:=Tryz.prog) (ty:=58) (m:=3) (cs:=[.string (str uname),.slice ua uloc.length ucap,.slice ub ubody.length ucap2]) hsl (by kernel_rfl) (by kernel_rfl) l1.length 0 rfl hcell hk) ?_
   refine rk ?_
   cases hp:p (Th.mk uname uloc ubody) with
   | true=>
     refine gX [.agg #[.string (str uname),.slice ua uloc.length ucap,.slice ub ubody.length ucap2],.pointer (some ⟨q,0,none⟩)] (.bool true) (fun W hk=>by have:=hcall W hk;rw [hp] at this;exact this) ?_
     refine rs [] 60 3 ?_
     exact gR (.int .i64 (l1.length:Int)) (fun W hk=>⟨_,rfl,(by rw [hI,List.any_append,List.any_cons,hp,hany,decide_eq_true (by omega)];rfl),hk.below⟩)
   | false=>
     refine gX [.agg #[.string (str uname),.slice ua uloc.length ucap,.slice ub ubody.length ucap2],.pointer (some ⟨q,0,none⟩)] (.bool false) (fun W hk=>by have:=hcall W hk;rw [hp] at this;exact this) ?_
     refine rs [] 60 1 ?_
     refine gS 8 (x := .int .i64 (wrapF .i64 ((l1.length:Int)+1))) (.int .i64 ((l1++[(Th.mk uname uloc ubody)]).length:Nat)) (by rw [wr64 (by omega) (by omega)];congr 1;simp) ?_
     exact gU _ [(0,.v (.slice a n cap)),(1,norm (.func (.func 122) #[] #[.pointer (some ⟨q,0,none⟩)])),(7,.v (.int .i64 (n:Int))),(8,.v (.int .i64 ((l1++[(Th.mk uname uloc ubody)]).length:Int)))] [] gz hγ0 (ih (l1++[(Th.mk uname uloc ubody)],l3) ⟨by show L=(l1++[_])++l3;rw [hI];simp,by show (l1++[_]).any p=false;rw [List.any_append,hany,List.any_cons,hp];rfl⟩ (by show l3.length<(_::l3).length;simp))
open Go.Sy in
set_option maxRecDepth 100000 in
theorem conTh_any (p:Th→Bool) (q:Nat) (L:List (Th)) (a:Option Addr) (n cap:Nat) (xs:List Value) (w:World) (hn:n=L.length) (hbd:n≤1000000000000) (hsl:SlAt (·<w.heap.size) w a n 3 xs) (hks:LsAt (ThAt (·<w.heap.size) w) L xs) (hf:∀ x∈L,∀ cs W,Sy.Keep (·<w.heap.size) w W→ThAt (·<W.heap.size) W x cs→Calls Tryz.prog 122 #[.agg cs.toArray,.pointer (some ⟨q,0,none⟩)] W fun e w'=>e = .returned (.bool (p x))∧Below W.heap.size W w'):
  Calls Tryz.prog 121 #[.slice a n cap,.func (.func 122) #[] #[.pointer (some ⟨q,0,none⟩)]] w fun e w'=>e = .returned (.bool (L.any p))∧Below w.heap.size w w':=by
 refine Sy.enter (vs:=[.slice a n cap,.func (.func 122) #[] #[.pointer (some ⟨q,0,none⟩)]]) sy_fine Tryz.func121 rfl (fun γ=>norms_LR _) rfl (fun γ0 hγ0=>?_)
 refine rk ?_
 refine gN [.slice a n cap,.func (.func 122) #[] #[.pointer (some ⟨q,0,none⟩)]] (fun v=>∃ i:Int,v = .int .i64 i∧L.any p=decide (0≤i)) (fun W hk=>(idxTh_any p q L a n cap xs W hn hbd ((hsl.keep hk).mono fun k h=>Nat.lt_of_lt_of_le h hk.size) (hks.imp fun x c hc=>hc.keep hk (fun k h=>Nat.lt_of_lt_of_le h hk.size)) (fun x hx cs W2 hk2=>hf x hx cs W2 (hk.trans (hk2.mono fun k h=>Nat.lt_of_lt_of_le h hk.size)))).mono fun e w' ⟨i,h1,h2,h3⟩=>⟨_,h1,⟨i,rfl,h2⟩,h3⟩) ?_
 rintro v w2 ⟨i,rfl,hi⟩ hk2
 refine rk ?_
 refine gR (.bool (!(intLt i 0))) (fun W hk=>⟨?_,hk.below⟩)
 rw [hi,intLt_eq]
 by_cases h:0≤i
 · rw [decide_eq_true h,decide_eq_false (by omega)]
   rfl
 · rw [decide_eq_false h,decide_eq_true (by omega)]
   rfl
end Go.Proofs.YtiacalnkmnckjaaGreatDoor
end
section
namespace Go.Proofs.YtiacalnkmnckjaaGreatDoor
open Go.RowKit Go.As
theorem ex32_some (e:Ex):(ex32 e).isSome=okE 32 e:=by
 unfold ex32 okE
 by_cases h:hgt e≤32
 · rw [if_pos h,decide_eq_true h,Bool.true_and]
 · rw [if_neg h,decide_eq_false h]
   rfl
noncomputable def okS (deep:Nat) (s:St):Bool:=(stT deep s).isSome
noncomputable def okB (deep:Nat) (l:List St):Bool:=(stsT deep l).isSome
theorem okB_any (deep:Nat) (h:deep≤32):∀ (l:List St),okB deep l=!(l.any fun s=>!(okS deep s))
 | []=>rfl
 | s::l=>by
   have ih:=okB_any deep h l
   unfold okB okS at *
   simp only [stsT,List.any_cons]
   rw [if_neg (by omega)]
   cases stT deep s with
   | none=>rfl
   | some t=>
     cases hx:stsT deep l with
     | none=>rw [hx] at ih;simp at ih ⊢;exact ih
     | some ts=>rw [hx] at ih;simp at ih ⊢;exact ih
theorem okB_deep (deep:Nat) (h:32<deep) (l:List St):okB deep l=decide (l.length=0):=by
 cases l with
 | nil=>rfl
 | cons s l=>unfold okB;simp only [stsT];rw [if_pos h];rfl
theorem okS_mk (deep:Nat) (k:Int) (name:List UInt8) (e:Ex) (body els:List St) (hk:1≤k∧k≤7):
  okS deep (.mk k name e body els)=((if k=1∨k=2∨k=3 then nameB name else Sy.bEqL name [])&&((if k=1∨k=4∨k=5∨k=6 then okE 32 e else exNone e)&&((decide (k=5) || decide (els.length=0))&&((decide (k=5∨k=6) || decide (body.length=0))&&(okB (deep+1) body&&okB (deep+1) els))))):=by
 have hbody:body.length=0→okB (deep+1) body=true:=fun h=>by rw [List.eq_nil_of_length_eq_zero h];rfl
 have hels:els.length=0→okB (deep+1) els=true:=fun h=>by rw [List.eq_nil_of_length_eq_zero h];rfl
 rw [← ex32_some]
 have hnm:Sy.bEqL name []=decide (name=[]):=by
  rw [Bool.eq_iff_iff,bEq_nil]
  simp
 rw [hnm]
 have h7:k=1∨k=2∨k=3∨k=4∨k=7∨k=5∨k=6:=by omega
 rcases h7 with rfl | rfl | rfl | rfl | rfl | rfl | rfl
 case inr.inr.inr.inr.inr.inl=>
  unfold okS okB
  simp only [stT]
  cases hB:stsT (deep+1) body <;> cases hL:stsT (deep+1) els <;> cases hx:ex32 e <;> by_cases hn:name=[] <;> by_cases h2:els.length=0 <;> simp [*]
  all_goals (first | omega | (split <;> rfl))
 case inr.inr.inr.inr.inr.inr=>
  unfold okS okB
  simp only [stT]
  cases hB:stsT (deep+1) body <;> cases hL:stsT (deep+1) els <;> cases hx:ex32 e <;> by_cases hn:name=[] <;> by_cases h2:els.length=0 <;> simp [*]
  all_goals (first | omega | (split <;> rfl))
 all_goals
  unfold okS
  simp only [stT]
  by_cases h1:body.length=0
  · have hb':=hbody h1
    by_cases h2:els.length=0
    · have he':=hels h2
      cases hn:nameB name <;> cases hx:ex32 e <;> by_cases hm:name=[] <;> cases hq:exNone e <;> simp [*]
    · simp [h2]
  · simp [h1]
theorem zeroB (ty bits:Int):vEq ty bits 0 0=decide (ty=0∧bits=0):=by
 unfold vEq
 rw [Sy.intEq_eq,Sy.intEq_eq]
 by_cases h1:ty=0 <;> by_cases h2:bits=0 <;> simp [h1,h2]
open Go.Sy in
set_option maxRecDepth 100000 in
theorem plain_any (uop uty ubits:Int) (uen:List UInt8) (uek:List Ex) (uea:Option Addr) (uec:Nat) (w:World):Calls Tryz.prog 224 #[.agg #[.int .u8 uop,.int .u8 uty,.int .u64 ubits,.string (str uen),.slice uea uek.length uec]] w fun e w'=>e = .returned (.bool (exNone (Ex.mk uop uty ubits uen uek)))∧Below w.heap.size w w':=by
 refine Sy.enter (vs:=[.agg #[.int .u8 uop,.int .u8 uty,.int .u64 ubits,.string (str uen),.slice uea uek.length uec]]) sy_fine Tryz.func224 rfl (fun γ=>norms_LR _) rfl (fun γ0 hγ0=>?_)
 refine rs [7] 60 0 ?_
 by_cases h1:uop=0
 rotate_left
 ·
  refine gF 5 uop 0 h1 ?_
  refine gF 6 uop 0 h1 ?_
  refine rs [] 60 3 ?_
  refine gR (.bool false) (fun W hk=>⟨?_,hk.below⟩)
  simp [exNone,h1]
 refine gT 5 uop 0 h1 ?_
 refine gT 6 uop 0 h1 ?_
 refine rk ?_
 have hv:=zeroB uty ubits
 cases h2:vEq uty ubits 0 0 with
 | false=>
   rw [h2] at hv
   refine gX [.agg #[.int .u8 uty,.int .u64 ubits]] (.bool false) (fun W hk=>by rw [← h2];exact zero_any _ _ W) ?_
   refine rs [] 60 3 ?_
   refine gR (.bool false) (fun W hk=>⟨?_,hk.below⟩)
   have hx:exNone (Ex.mk uop uty ubits uen uek)=false:=by
    simp only [exNone,decide_eq_false_iff_not]
    rintro ⟨_,h3,h4,_⟩
    exact of_decide_eq_false hv.symm ⟨h3,h4⟩
   rw [hx]
 | true=>
   rw [h2] at hv
   obtain ⟨hv1,hv2⟩:=of_decide_eq_true hv.symm
   refine gX [.agg #[.int .u8 uty,.int .u64 ubits]] (.bool true) (fun W hk=>by rw [← h2];exact zero_any _ _ W) ?_
   refine rs [17] 60 0 ?_
   by_cases h3:uen=[]
   rotate_left
   ·
    refine gS 14 (x := .bool (bEqL uen [])) (.bool false) (by rw [bEqL_eq];simp [h3]) ?_
    refine gS 15 (x := .bool (bEqL uen [])) (.bool false) (by rw [bEqL_eq];simp [h3]) ?_
    refine gS 16 (x := .bool (bEqL uen [])) (.bool false) (by rw [bEqL_eq];simp [h3]) ?_
    refine rs [] 60 3 ?_
    refine gR (.bool false) (fun W hk=>⟨?_,hk.below⟩)
    simp [exNone,h3]
   refine gS 14 (x := .bool (bEqL uen [])) (.bool true) (by rw [bEqL_eq];simp [h3]) ?_
   refine gS 15 (x := .bool (bEqL uen [])) (.bool true) (by rw [bEqL_eq];simp [h3]) ?_
   refine gS 16 (x := .bool (bEqL uen [])) (.bool true) (by rw [bEqL_eq];simp [h3]) ?_
   refine rk ?_
   refine gR (.bool (intEq (uek.length:Int) 0)) (fun W hk=>⟨?_,hk.below⟩)
   rw [intEq_eq]
   simp [exNone,h1,hv1,hv2,h3]
end Go.Proofs.YtiacalnkmnckjaaGreatDoor
end
