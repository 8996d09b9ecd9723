/- Texts of this proof, one behind the other. Conditions: those in each theorem. -/
import Derived.Test.YtijopiphkgddhaaGreatDoorPagQ1
import Derived.Test.YtijopiphkgddhaaGreatDoorPagQ13
import Derived.Test.YtijopiphkgddhaaGreatDoorPagQ10
import Derived.Test.YtijopiphkgddhaaGreatDoorPagQ9
import Derived.Test.YtijopiphkgddhaaGreatDoorPagQ2
set_option linter.unusedVariables false
set_option linter.unusedSimpArgs false
namespace Go.Proofs.YtijopiphkgddhaaGreatDoor
open Go.RowKit Go.As
section
set_option maxRecDepth 100000
open Go.Sy
theorem aAn (N:Nat) (H:∀ (e1 e2:St) (cs1 cs2:List Value) (w:World),swt e1≤N→swt e1≤1000000000000→StAt (·<w.heap.size) w e1 cs1→StAt (·<w.heap.size) w e2 cs2→
   CB 55 #[.agg cs1.toArray,.agg cs2.toArray] w (.bool (bY e1 e2)))
  (L M:List St) (a1 a2:Option Addr) (n1 n2 cap1 cap2:Nat) (xs1 xs2:List Value) (w:World) (hn1:n1=L.length) (hn2:n2=M.length) (hN:cS L≤N) (hbd:cS L≤1000000000000)
  (hsl1:SlAt (·<w.heap.size) w a1 n1 9 xs1) (hsl2:SlAt (·<w.heap.size) w a2 n2 9 xs2) (hks1:LsAt (StAt (·<w.heap.size) w) L xs1) (hks2:LsAt (StAt (·<w.heap.size) w) M xs2):
  CB 54 #[.slice a1 n1 cap1,.slice a2 n2 cap2,.func (.func 55) #[] #[]] w (.bool (bY L M)):=by
 refine eN [.slice a1 n1 cap1,.slice a2 n2 cap2,.func (.func 55) #[] #[]] Tryz.func54 (fun γ0 hγ0=>?_)
 refine rk ?_
 refine cJ (b:=!(intEq (n1:Int) (n2:Int))) (by kernel_rfl) (fun hnn=>?_) (fun hnn=>?_)
 ·
  refine rs [] 60 2 ?_
  refine gR (.bool false) (fun W hk=>⟨?_,hk.below⟩)
  rw [b9]
  intro h
  rw [intEq_eq] at hnn;simp_all
 have hnn1:n1=n2:=by rw [intEq_eq] at hnn;have:(n1:Int)=(n2:Int):=(by simpa using hnn);omega
 refine rk ?_
 refine cF ?_
 refine cZ (fun i:List St×List St×List St=>i.2.1.length) (fun i=>L=i.1++i.2.1∧M=i.1++i.2.2) (fun i=>⟨mkT [(0,vL a1 n1 cap1),(1,vL a2 n2 cap2),(2,bW (.func (.func 55) #[] #[])),(15,vL a1 n1 cap1),(16,vI (n1:Int)),(17,vI (i.1.length:Int))],mkH [],gz,[]⟩)
  ([],L,M) ⟨rfl,rfl⟩ (by kernel_rfl)
  (fun h=>gU _ [(0,vL a1 n1 cap1),(1,vL a2 n2 cap2),(2,bW (.func (.func 55) #[] #[])),(15,vL a1 n1 cap1),(16,vI (n1:Int)),(17,vI (([]:List St).length:Int))] [] gz (fun b hb=>hγ0 b hb) h) ?_
 rintro ⟨l1,l2,m2⟩ ⟨hI1,hI2⟩ ih
 simp only at hI1 hI2
 have hq1:n1=l1.length+l2.length:=by rw [hn1,hI1,aA]
 have hq2:n2=l1.length+m2.length:=by rw [hn2,hI2,aA]
 refine rk ?_
 cases l2 with
 | nil=>
   obtain rfl:m2=[]:=aF (by simp only [aD] at hq1;omega)
   refine ky (l1.length:Int) (n1:Int) (by rw [hq1];simp) (rk ?_)
   refine gR (.bool true) (fun W hk=>⟨?_,hk.below⟩)
   rw [sameB_t.2 (by rw [hI1,hI2])]
 | cons x l3=>
   obtain ⟨y,m3,rfl⟩:∃ y m3,m2=y::m3:=by
    cases m2 with
    | nil=>simp only [aD,aB] at hq1 hq2;omega
    | cons a b=>exact ⟨a,b,rfl⟩
   have hin1:l1.length<n1:=by rw [hq1,aB];omega
   have hin2:l1.length<n2:=by omega
   have hks1':=hks1
   have hks2':=hks2
   rw [hI1] at hks1'
   rw [hI2] at hks2'
   obtain ⟨c1,hc1,hcell1⟩:=hks1'.at_ (fun _ _ h=>h.len)
   obtain ⟨c2,hc2,hcell2⟩:=hks2'.at_ (fun _ _ h=>h.len)
   refine kx (l1.length:Int) (n1:Int) (by omega) (rk ?_)
   have hwl:cS L=cS l1+(swt x+cS l3):=by rw [hI1,vR];simp [cS]
   have hnl:=jQ L
   have hc1k:=fun W (hk:Keep (·<w.heap.size) w W)=>hc1.keep hk (kU hk)
   have hc2k:=fun W (hk:Keep (·<w.heap.size) w W)=>hc2.keep hk (kU hk)
   obtain ⟨uK,us,⟨uo,ut,uv,un,uk⟩,uB,uL⟩:=x
   simp only [StAt] at hc1
   obtain ⟨ucs,uj,uh,ubx,ui,uw,ulx,rfl,uhe,uhbs,uhbt,uhls,uhlt⟩:=hc1
   have uhe0:=uhe
   simp only [ExAt] at uhe0
   obtain ⟨uf,ug,uex,rfl,_⟩:=uhe0
   have hcell1:∀ j v,((yL uK us uo ut uv un uf uk.length ug uj uB.length uh ui uL.length uw):List Value)[j]?=some v→xs1[l1.length*9+j]?=some v:=hcell1
   have umid:∀ j v,((xL uo ut uv un uf uk.length ug):List Value)[j]?=some v→xs1[l1.length*9+2+j]?=some v:=rU hcell1 2 (zG [_,_] (xL uo ut uv un uf uk.length ug) [_,_])
   obtain ⟨vkind,vsn,⟨vop,vty,vbits,ven,vek⟩,vbody,vels⟩:=y
   simp only [StAt] at hc2
   obtain ⟨vcs,vba,vbc,vbx,vla,vlc,vlx,rfl,vhe,vhbs,vhbt,vhls,vhlt⟩:=hc2
   have vhe0:=vhe
   simp only [ExAt] at vhe0
   obtain ⟨vea,vec,vex,rfl,_⟩:=vhe0
   have hcell2:∀ j v,((yL vkind vsn vop vty vbits ven vea vek.length vec vba vbody.length vbc vla vels.length vlc):List Value)[j]?=some v→xs2[l1.length*9+j]?=some v:=hcell2
   have vmid:∀ j v,((xL vop vty vbits ven vea vek.length vec):List Value)[j]?=some v→xs2[l1.length*9+2+j]?=some v:=rU hcell2 2 (zG [_,_] (xL vop vty vbits ven vea vek.length vec) [_,_])
   refine gI 52 54 cap1 l1.length hsl1 hin1 (rk ?_)
   refine gD 54 9 (yL uK us uo ut uv un uf uk.length ug uj uB.length uh ui uL.length uw) l1.length 0 hsl1 rfl hcell1 (rk ?_)
   refine gI 52 54 cap2 l1.length hsl2 hin2 (rk ?_)
   refine gD 54 9 (yL vkind vsn vop vty vbits ven vea vek.length vec vba vbody.length vbc vla vels.length vlc) l1.length 0 hsl2 rfl hcell2 (rk ?_)
   refine gX [yV uK us uo ut uv un uf uk.length ug uj uB.length uh ui uL.length uw,yV vkind vsn vop vty vbits ven vea vek.length vec vba vbody.length vbc vla vels.length vlc] (.bool (bY (St.mk uK us (Ex.mk uo ut uv un uk) uB uL) (St.mk vkind vsn (Ex.mk vop vty vbits ven vek) vbody vels))) (fun W hk=>H (St.mk uK us (Ex.mk uo ut uv un uk) uB uL) (St.mk vkind vsn (Ex.mk vop vty vbits ven vek) vbody vels) (yL uK us uo ut uv un uf uk.length ug uj uB.length uh ui uL.length uw) (yL vkind vsn vop vty vbits ven vea vek.length vec vba vbody.length vbc vla vels.length vlc) W (by omega) (by omega) (hc1k W hk) (hc2k W hk)) (rk ?_)
   refine cJ (b:=!(bY (St.mk uK us (Ex.mk uo ut uv un uk) uB uL) (St.mk vkind vsn (Ex.mk vop vty vbits ven vek) vbody vels))) (by kernel_rfl) (fun hss=>?_) (fun hss=>?_)
   ·
    have hne:(St.mk uK us (Ex.mk uo ut uv un uk) uB uL)≠(St.mk vkind vsn (Ex.mk vop vty vbits ven vek) vbody vels):=fun h=>by rw [sameB_t.2 h] at hss;cases hss
    refine rs [] 60 2 ?_
    refine gR (.bool false) (fun W hk=>⟨?_,hk.below⟩)
    rw [b9]
    intro h
    rw [hI1,hI2] at h
    have h2:=(List.cons.inj (aZ h)).1
    exact hne h2
   ·
    have hxy:(St.mk uK us (Ex.mk uo ut uv un uk) uB uL)=(St.mk vkind vsn (Ex.mk vop vty vbits ven vek) vbody vels):=sameB_t.1 (by simpa using hss)
    refine rs [] 60 2 ?_
    refine gJ 17 l1 (St.mk uK us (Ex.mk uo ut uv un uk) uB uL) (by omega) ?_
    exact gU _ [(0,vL a1 n1 cap1),(1,vL a2 n2 cap2),(2,bW (.func (.func 55) #[] #[])),(15,vL a1 n1 cap1),(16,vI (n1:Int)),(17,vI ((l1++[(St.mk uK us (Ex.mk uo ut uv un uk) uB uL)]).length:Int))] [] gz (fun b hb=>hγ0 b hb) (ih (l1++[(St.mk uK us (Ex.mk uo ut uv un uk) uB uL)],l3,m3) ⟨(by show L=(l1++[_])++l3;rw [hI1];simp),(by show M=(l1++[_])++m3;rw [hI2,← hxy];simp)⟩ lS1)
theorem aFb:∀ (N:Nat) (e1 e2:St) (cs1 cs2:List Value) (w:World),swt e1≤N→swt e1≤1000000000000→StAt (·<w.heap.size) w e1 cs1→StAt (·<w.heap.size) w e2 cs2→
  CB 55 #[.agg cs1.toArray,.agg cs2.toArray] w (.bool (bY e1 e2)):=by
 intro N
 induction N with
 | zero=>intro e1 e2 cs1 cs2 w h;have:=aDf e1;omega
 | succ N ihN=>
   intro e1 e2 cs1 cs2 w hN hbd hat1 hat2
   obtain ⟨uK,us,⟨uo,ut,uv,un,uk⟩,uB,uL⟩:=e1
   simp only [StAt] at hat1
   obtain ⟨ucs,uj,uh,ubx,ui,uw,ulx,rfl,uhe,uhbs,uhbt,uhls,uhlt⟩:=hat1
   have uhe0:=uhe
   simp only [ExAt] at uhe0
   obtain ⟨uf,ug,uex,rfl,_⟩:=uhe0
   obtain ⟨vkind,vsn,⟨vop,vty,vbits,ven,vek⟩,vbody,vels⟩:=e2
   simp only [StAt] at hat2
   obtain ⟨vcs,vba,vbc,vbx,vla,vlc,vlx,rfl,vhe,vhbs,vhbt,vhls,vhlt⟩:=hat2
   have vhe0:=vhe
   simp only [ExAt] at vhe0
   obtain ⟨vea,vec,vex,rfl,_⟩:=vhe0
   simp only [swt] at hN hbd
   refine eN [yV uK us uo ut uv un uf uk.length ug uj uB.length uh ui uL.length uw,yV vkind vsn vop vty vbits ven vea vek.length vec vba vbody.length vbc vla vels.length vlc] Tryz.func55 (fun γ0 hγ0=>?_)
   refine rs [11] 60 0 ?_
   rcases aJ (intEq uK vkind) with h1 | h1
   rotate_left
   ·
    refine gS 9 (x := .bool (intEq uK vkind)) (.bool false) (by rw [h1]) ?_
    refine gS 10 (x := .bool (intEq uK vkind)) (.bool false) (by rw [h1]) (rs [] 60 4 ?_)
    refine gR (.bool false) (fun W hk=>⟨?_,hk.below⟩)
    rw [b9]
    intro h
    injection h with e1 e2 e3 e4 e5
    rw [intEq_eq] at h1;simp_all
   refine gS 9 (x := .bool (intEq uK vkind)) (.bool true) (by rw [h1]) ?_
   refine gS 10 (x := .bool (intEq uK vkind)) (.bool true) (by rw [h1]) (rs [18] 60 0 ?_)
   rcases aJ (bEqL us vsn) with h2 | h2
   rotate_left
   ·
    refine gS 15 (x := .bool (bEqL us vsn)) (.bool false) (by rw [h2]) ?_
    refine gS 16 (x := .bool (bEqL us vsn)) (.bool false) (by rw [h2]) ?_
    refine gS 17 (x := .bool (bEqL us vsn)) (.bool false) (by rw [h2]) (rs [] 60 4 ?_)
    refine gR (.bool false) (fun W hk=>⟨?_,hk.below⟩)
    rw [b9]
    intro h
    injection h with e1 e2 e3 e4 e5
    rw [bEqL_eq] at h2;simp_all
   refine gS 15 (x := .bool (bEqL us vsn)) (.bool true) (by rw [h2]) ?_
   refine gS 16 (x := .bool (bEqL us vsn)) (.bool true) (by rw [h2]) ?_
   refine gS 17 (x := .bool (bEqL us vsn)) (.bool true) (by rw [h2]) (rk ?_)
   refine gX [xV uo ut uv un uf uk.length ug,xV vop vty vbits ven vea vek.length vec] (.bool (bY (Ex.mk uo ut uv un uk) (Ex.mk vop vty vbits ven vek))) (fun W hk=>aE9 _ (Ex.mk uo ut uv un uk) (Ex.mk vop vty vbits ven vek) (xL uo ut uv un uf uk.length ug) (xL vop vty vbits ven vea vek.length vec) W (aH _) (by omega) (uhe.keep hk (kU hk)) (vhe.keep hk (kU hk))) (rs [25] 60 0 ?_)
   rcases aJ (bY (Ex.mk uo ut uv un uk) (Ex.mk vop vty vbits ven vek)) with h3 | h3
   rotate_left
   ·
    refine gS 22 (x := .bool (bY (Ex.mk uo ut uv un uk) (Ex.mk vop vty vbits ven vek))) (.bool false) (by rw [h3]) ?_
    refine gS 23 (x := .bool (bY (Ex.mk uo ut uv un uk) (Ex.mk vop vty vbits ven vek))) (.bool false) (by rw [h3]) ?_
    refine gS 24 (x := .bool (bY (Ex.mk uo ut uv un uk) (Ex.mk vop vty vbits ven vek))) (.bool false) (by rw [h3]) (rs [] 60 4 ?_)
    refine gR (.bool false) (fun W hk=>⟨?_,hk.below⟩)
    rw [b9]
    intro h
    injection h with e1 e2 e3 e4 e5
    rw [sameB_t.2 e3] at h3;cases h3
   refine gS 22 (x := .bool (bY (Ex.mk uo ut uv un uk) (Ex.mk vop vty vbits ven vek))) (.bool true) (by rw [h3]) ?_
   refine gS 23 (x := .bool (bY (Ex.mk uo ut uv un uk) (Ex.mk vop vty vbits ven vek))) (.bool true) (by rw [h3]) ?_
   refine gS 24 (x := .bool (bY (Ex.mk uo ut uv un uk) (Ex.mk vop vty vbits ven vek))) (.bool true) (by rw [h3]) (rk ?_)
   refine gX [.slice uj uB.length uh,.slice vba vbody.length vbc,.func (.func 55) #[] #[]] (.bool (bY uB vbody)) (fun W hk=>aAn N ihN uB vbody _ _ _ _ _ _ _ _ W rfl rfl (by omega) (by omega) ((uhbs.keep hk).mono (kU hk)) ((vhbs.keep hk).mono (kU hk)) (StsAt_ls.1 (uhbt.keep hk (kU hk))) (StsAt_ls.1 (vhbt.keep hk (kU hk)))) (rs [32] 60 0 ?_)
   rcases aJ (bY uB vbody) with h4 | h4
   rotate_left
   ·
    refine gS 29 (x := .bool (bY uB vbody)) (.bool false) (by rw [h4]) ?_
    refine gS 30 (x := .bool (bY uB vbody)) (.bool false) (by rw [h4]) ?_
    refine gS 31 (x := .bool (bY uB vbody)) (.bool false) (by rw [h4]) (rs [] 60 4 ?_)
    refine gR (.bool false) (fun W hk=>⟨?_,hk.below⟩)
    rw [b9]
    intro h
    injection h with e1 e2 e3 e4 e5
    rw [sameB_t.2 e4] at h4;cases h4
   refine gS 29 (x := .bool (bY uB vbody)) (.bool true) (by rw [h4]) ?_
   refine gS 30 (x := .bool (bY uB vbody)) (.bool true) (by rw [h4]) ?_
   refine gS 31 (x := .bool (bY uB vbody)) (.bool true) (by rw [h4]) (rk ?_)
   refine gX [.slice ui uL.length uw,.slice vla vels.length vlc,.func (.func 55) #[] #[]] (.bool (bY uL vels)) (fun W hk=>aAn N ihN uL vels _ _ _ _ _ _ _ _ W rfl rfl (by omega) (by omega) ((uhls.keep hk).mono (kU hk)) ((vhls.keep hk).mono (kU hk)) (StsAt_ls.1 (uhlt.keep hk (kU hk))) (StsAt_ls.1 (vhlt.keep hk (kU hk)))) (rk ?_)
   refine gR (.bool (bY uL vels)) (fun W hk=>⟨?_,hk.below⟩)
   have g1:uK=vkind:=by rw [intEq_eq] at h1;simpa using h1
   have g2:us=vsn:=by rw [bEqL_eq] at h2;simpa using h2
   have g3:=sameB_t.1 h3
   have g4:=sameB_t.1 h4
   rcases aJ (bY uL vels) with hq | hq
   · rw [hq,sameB_t.2]
     rw [g1,g2,g3,g4,sameB_t.1 hq]
   · rw [hq,b9]
     intro h
     injection h with e1 e2 e3 e4 e5
     rw [sameB_t.2 e5] at hq
     cases hq
theorem aCs (x y:Th) (cs1 cs2:List Value) (w:World) (hbd:thw x≤1000000000000) (hc1:ThAt (·<w.heap.size) w x cs1) (hc2:ThAt (·<w.heap.size) w y cs2):
  CB 25 #[.agg cs1.toArray,.agg cs2.toArray] w (.bool (bY x y)):=by
 unfold thw at hbd
 obtain ⟨ua,ucap,uxs,ub,ucap2,uys,rfl,uh1,uh2,uh3,uh4⟩:=hc1
 obtain ⟨va,vcap,vxs,vb,vcap2,vys,rfl,vh1,vh2,vh3,vh4⟩:=hc2
 refine eN [.agg #[nT x.name,.slice ua x.locals.length ucap,.slice ub x.body.length ucap2],.agg #[nT y.name,.slice va y.locals.length vcap,.slice vb y.body.length vcap2]] Tryz.func25 (fun γ0 hγ0=>?_)
 refine rs [11] 60 0 ?_
 rcases aJ (bEqL x.name y.name) with h1 | h1
 rotate_left
 ·
  refine gS 9 (x := .bool (bEqL x.name y.name)) (.bool false) (by rw [h1]) ?_
  refine gS 10 (x := .bool (bEqL x.name y.name)) (.bool false) (by rw [h1]) (rs [] 60 4 ?_)
  refine gR (.bool false) (fun W hk=>⟨?_,hk.below⟩)
  rw [b9]
  intro h
  rw [bEqL_eq] at h1;simp_all
 refine gS 9 (x := .bool (bEqL x.name y.name)) (.bool true) (by rw [h1]) ?_
 refine gS 10 (x := .bool (bEqL x.name y.name)) (.bool true) (by rw [h1]) (rk ?_)
 refine gX [.slice ua x.locals.length ucap,.slice va y.locals.length vcap] (.bool (bY x.locals y.locals)) (fun W hk=>aB2 x.locals y.locals _ _ _ _ _ _ _ _ W rfl rfl (by omega) ((uh1.keep hk).mono (kU hk)) ((vh1.keep hk).mono (kU hk)) uh2 vh2) (rs [18] 60 0 ?_)
 rcases aJ (bY x.locals y.locals) with h2 | h2
 rotate_left
 ·
  refine gS 15 (x := .bool (bY x.locals y.locals)) (.bool false) (by rw [h2]) ?_
  refine gS 16 (x := .bool (bY x.locals y.locals)) (.bool false) (by rw [h2]) ?_
  refine gS 17 (x := .bool (bY x.locals y.locals)) (.bool false) (by rw [h2]) (rs [] 60 4 ?_)
  refine gR (.bool false) (fun W hk=>⟨?_,hk.below⟩)
  rw [b9]
  intro h
  rw [sameB_t.2 (by rw [h])] at h2;cases h2
 refine gS 15 (x := .bool (bY x.locals y.locals)) (.bool true) (by rw [h2]) ?_
 refine gS 16 (x := .bool (bY x.locals y.locals)) (.bool true) (by rw [h2]) ?_
 refine gS 17 (x := .bool (bY x.locals y.locals)) (.bool true) (by rw [h2]) (rk ?_)
 refine gX [.slice ub x.body.length ucap2,.slice vb y.body.length vcap2,.func (.func 55) #[] #[]] (.bool (bY x.body y.body)) (fun W hk=>aAn _ (aFb _) x.body y.body _ _ _ _ _ _ _ _ W rfl rfl (aH _) (by omega) ((uh3.keep hk).mono (kU hk)) ((vh3.keep hk).mono (kU hk)) (StsAt_ls.1 (uh4.keep hk (kU hk))) (StsAt_ls.1 (vh4.keep hk (kU hk)))) (rk ?_)
 refine gR (.bool (bY x.body y.body)) (fun W hk=>⟨?_,hk.below⟩)
 have g1:x.name=y.name:=by rw [bEqL_eq] at h1;simpa using h1
 have g2:=sameB_t.1 h2
 rcases aJ (bY x.body y.body) with hq | hq
 · rw [hq,sameB_t.2]
   have:=sameB_t.1 hq
   cases x;cases y;simp_all
 · rw [hq,b9]
   intro h
   rw [sameB_t.2 (by rw [h])] at hq
   cases hq
theorem aPz (L M:List Th) (a1 a2:Option Addr) (n1 n2 cap1 cap2:Nat) (xs1 xs2:List Value) (w:World) (hn1:n1=L.length) (hn2:n2=M.length) (hbd:fZ L≤1000000000000)
  (hsl1:SlAt (·<w.heap.size) w a1 n1 3 xs1) (hsl2:SlAt (·<w.heap.size) w a2 n2 3 xs2) (hks1:LsAt (ThAt (·<w.heap.size) w) L xs1) (hks2:LsAt (ThAt (·<w.heap.size) w) M xs2):
  CB 24 #[.slice a1 n1 cap1,.slice a2 n2 cap2,.func (.func 25) #[] #[]] w (.bool (bY L M)):=by
 refine eN [.slice a1 n1 cap1,.slice a2 n2 cap2,.func (.func 25) #[] #[]] Tryz.func24 (fun γ0 hγ0=>?_)
 refine rk ?_
 refine cJ (b:=!(intEq (n1:Int) (n2:Int))) (by kernel_rfl) (fun hnn=>?_) (fun hnn=>?_)
 ·
  refine rs [] 60 2 ?_
  refine gR (.bool false) (fun W hk=>⟨?_,hk.below⟩)
  rw [b9]
  intro h
  rw [intEq_eq] at hnn;simp_all
 have hnn1:n1=n2:=by rw [intEq_eq] at hnn;have:(n1:Int)=(n2:Int):=(by simpa using hnn);omega
 refine rk ?_
 refine cF ?_
 refine cZ (fun i:List Th×List Th×List Th=>i.2.1.length) (fun i=>L=i.1++i.2.1∧M=i.1++i.2.2) (fun i=>⟨mkT [(0,vL a1 n1 cap1),(1,vL a2 n2 cap2),(2,bW (.func (.func 25) #[] #[])),(15,vL a1 n1 cap1),(16,vI (n1:Int)),(17,vI (i.1.length:Int))],mkH [],gz,[]⟩)
  ([],L,M) ⟨rfl,rfl⟩ (by kernel_rfl)
  (fun h=>gU _ [(0,vL a1 n1 cap1),(1,vL a2 n2 cap2),(2,bW (.func (.func 25) #[] #[])),(15,vL a1 n1 cap1),(16,vI (n1:Int)),(17,vI (([]:List Th).length:Int))] [] gz (fun b hb=>hγ0 b hb) h) ?_
 rintro ⟨l1,l2,m2⟩ ⟨hI1,hI2⟩ ih
 simp only at hI1 hI2
 have hq1:n1=l1.length+l2.length:=by rw [hn1,hI1,aA]
 have hq2:n2=l1.length+m2.length:=by rw [hn2,hI2,aA]
 refine rk ?_
 cases l2 with
 | nil=>
   obtain rfl:m2=[]:=aF (by simp only [aD] at hq1;omega)
   refine ky (l1.length:Int) (n1:Int) (by rw [hq1];simp) (rk ?_)
   refine gR (.bool true) (fun W hk=>⟨?_,hk.below⟩)
   rw [sameB_t.2 (by rw [hI1,hI2])]
 | cons x l3=>
   obtain ⟨y,m3,rfl⟩:∃ y m3,m2=y::m3:=by
    cases m2 with
    | nil=>simp only [aD,aB] at hq1 hq2;omega
    | cons a b=>exact ⟨a,b,rfl⟩
   have hin1:l1.length<n1:=by rw [hq1,aB];omega
   have hin2:l1.length<n2:=by omega
   have hks1':=hks1
   have hks2':=hks2
   rw [hI1] at hks1'
   rw [hI2] at hks2'
   obtain ⟨c1,hc1,hcell1⟩:=hks1'.at_ (fun _ _ h=>h.len)
   obtain ⟨c2,hc2,hcell2⟩:=hks2'.at_ (fun _ _ h=>h.len)
   refine kx (l1.length:Int) (n1:Int) (by omega) (rk ?_)
   have hwl:fZ L=fZ l1+(thw x+fZ l3):=by rw [hI1,aAz];simp [fZ]
   have hnl:=aAm L
   have hc1k:=fun W (hk:Keep (·<w.heap.size) w W)=>hc1.keep hk (kU hk)
   have hc2k:=fun W (hk:Keep (·<w.heap.size) w W)=>hc2.keep hk (kU hk)
   obtain ⟨ua,ucap,uxs,ub,ucap2,uys,rfl,uh1,uh2,uh3,uh4⟩:=hc1
   obtain ⟨va,vcap,vxs,vb,vcap2,vys,rfl,vh1,vh2,vh3,vh4⟩:=hc2
   refine gI 25 56 cap1 l1.length hsl1 hin1 (rk ?_)
   refine gD 56 3 [nT x.name,.slice ua x.locals.length ucap,.slice ub x.body.length ucap2] l1.length 0 hsl1 rfl hcell1 (rk ?_)
   refine gI 25 56 cap2 l1.length hsl2 hin2 (rk ?_)
   refine gD 56 3 [nT y.name,.slice va y.locals.length vcap,.slice vb y.body.length vcap2] l1.length 0 hsl2 rfl hcell2 (rk ?_)
   refine gX [.agg #[nT x.name,.slice ua x.locals.length ucap,.slice ub x.body.length ucap2],.agg #[nT y.name,.slice va y.locals.length vcap,.slice vb y.body.length vcap2]] (.bool (bY x y)) (fun W hk=>aCs x y [nT x.name,.slice ua x.locals.length ucap,.slice ub x.body.length ucap2] [nT y.name,.slice va y.locals.length vcap,.slice vb y.body.length vcap2] W (by omega) (hc1k W hk) (hc2k W hk)) (rk ?_)
   refine cJ (b:=!(bY x y)) (by kernel_rfl) (fun hss=>?_) (fun hss=>?_)
   ·
    have hne:x≠y:=fun h=>by rw [sameB_t.2 h] at hss;cases hss
    refine rs [] 60 2 ?_
    refine gR (.bool false) (fun W hk=>⟨?_,hk.below⟩)
    rw [b9]
    intro h
    rw [hI1,hI2] at h
    have h2:=(List.cons.inj (aZ h)).1
    exact hne h2
   ·
    have hxy:x=y:=sameB_t.1 (by simpa using hss)
    refine rs [] 60 2 ?_
    refine gJ 17 l1 x (by omega) ?_
    exact gU _ [(0,vL a1 n1 cap1),(1,vL a2 n2 cap2),(2,bW (.func (.func 25) #[] #[])),(15,vL a1 n1 cap1),(16,vI (n1:Int)),(17,vI ((l1++[x]).length:Int))] [] gz (fun b hb=>hγ0 b hb) (ih (l1++[x],l3,m3) ⟨(by show L=(l1++[_])++l3;rw [hI1];simp),(by show M=(l1++[_])++m3;rw [hI2,← hxy];simp)⟩ lS1)
theorem aOq (p q:Pg) (cs1 cs2:List Value) (w:World) (hbd0:pwt p≤1000000000000) (hp:PgAt (·<w.heap.size) w p cs1) (hq:PgAt (·<w.heap.size) w q cs2):
  CB 7 #[.agg cs1.toArray,.agg cs2.toArray] w (.bool (bY p q)):=by
 obtain ⟨pa,qc,pxs0,pb,pcap2,pys0,pd,qe,pzs0,rfl,pxs,pxt,pys,pyt,pzs,pzt⟩:=hp
 obtain ⟨qa,qcap,qxs0,qb,qcap2,qys0,qd,qcap3,qzs0,rfl,qxs,qxt,qys,qyt,qzs,qzt⟩:=hq
 have hbd:p.shared.length+p.mutexes.length+fZ p.threads≤1000000000000:=hbd0
 refine eN [.agg #[.slice pa p.shared.length qc,.slice pb p.mutexes.length pcap2,.slice pd p.threads.length qe],.agg #[.slice qa q.shared.length qcap,.slice qb q.mutexes.length qcap2,.slice qd q.threads.length qcap3]] Tryz.func7 (fun γ0 hγ0=>?_)
 refine rk ?_
 refine gX [.slice pa p.shared.length qc,.slice qa q.shared.length qcap] (.bool (bY p.shared q.shared)) (fun W hk=>aB2 p.shared q.shared _ _ _ _ _ _ _ _ W rfl rfl (by omega) ((pxs.keep hk).mono (kU hk)) ((qxs.keep hk).mono (kU hk)) pxt qxt) (rs [11] 60 0 ?_)
 rcases aJ (bY p.shared q.shared) with h1 | h1
 rotate_left
 ·
  refine gS 9 (x := .bool (bY p.shared q.shared)) (.bool false) (by rw [h1]) ?_
  refine gS 10 (x := .bool (bY p.shared q.shared)) (.bool false) (by rw [h1]) (rs [] 60 4 ?_)
  refine gR (.bool false) (fun W hk=>⟨?_,hk.below⟩)
  rw [b9]
  intro h
  rw [sameB_t.2 (by rw [h])] at h1;cases h1
 refine gS 9 (x := .bool (bY p.shared q.shared)) (.bool true) (by rw [h1]) ?_
 refine gS 10 (x := .bool (bY p.shared q.shared)) (.bool true) (by rw [h1]) (rk ?_)
 refine gX [.slice pb p.mutexes.length pcap2,.slice qb q.mutexes.length qcap2] (.bool (bY p.mutexes q.mutexes)) (fun W hk=>aH9 p.mutexes q.mutexes _ _ _ _ _ _ _ _ W rfl rfl (by omega) ((pys.keep hk).mono (kU hk)) ((qys.keep hk).mono (kU hk)) pyt qyt) (rs [18] 60 0 ?_)
 rcases aJ (bY p.mutexes q.mutexes) with h2 | h2
 rotate_left
 ·
  refine gS 15 (x := .bool (bY p.mutexes q.mutexes)) (.bool false) (by rw [h2]) ?_
  refine gS 16 (x := .bool (bY p.mutexes q.mutexes)) (.bool false) (by rw [h2]) ?_
  refine gS 17 (x := .bool (bY p.mutexes q.mutexes)) (.bool false) (by rw [h2]) (rs [] 60 4 ?_)
  refine gR (.bool false) (fun W hk=>⟨?_,hk.below⟩)
  rw [b9]
  intro h
  rw [sameB_t.2 (by rw [h])] at h2;cases h2
 refine gS 15 (x := .bool (bY p.mutexes q.mutexes)) (.bool true) (by rw [h2]) ?_
 refine gS 16 (x := .bool (bY p.mutexes q.mutexes)) (.bool true) (by rw [h2]) ?_
 refine gS 17 (x := .bool (bY p.mutexes q.mutexes)) (.bool true) (by rw [h2]) (rk ?_)
 refine gX [.slice pd p.threads.length qe,.slice qd q.threads.length qcap3,.func (.func 25) #[] #[]] (.bool (bY p.threads q.threads)) (fun W hk=>aPz p.threads q.threads _ _ _ _ _ _ _ _ W rfl rfl (by omega) ((pzs.keep hk).mono (kU hk)) ((qzs.keep hk).mono (kU hk)) (pzt.imp fun _ _ h=>h.keep hk (kU hk)) (qzt.imp fun _ _ h=>h.keep hk (kU hk))) (rk ?_)
 refine gR (.bool (bY p.threads q.threads)) (fun W hk=>⟨?_,hk.below⟩)
 have g1:=sameB_t.1 h1
 have g2:=sameB_t.1 h2
 rcases aJ (bY p.threads q.threads) with hq | hq
 · rw [hq,sameB_t.2]
   have:=sameB_t.1 hq
   cases p;cases q;simp_all
 · rw [hq,b9]
   intro h
   rw [sameB_t.2 (by rw [h])] at hq
   cases hq
end
section
theorem aLs {P:Program} {ty:TypeId} (hz:Sy.szB P ty=some 1) {w:World} {b o:Nat} {c:Array Value} {e:TypeId} (hb:w.heap[b]?=some (.cells c e (0,0))) (ho:o<c.size) {v:Value} (hv:v.cells=#[v]) (h1:v.oneCell'=true):
  (Instr.storeAt ty (.pointer (some ⟨b,o,none⟩)) v).run P w = .ok () (w.setRow b (c.toList.take o++[v]++c.toList.drop (o+1)).toArray):=by
 have hst:=run_storeCells_at (P:=P) b o e [v] 0 c w hb (by simp only [aB,aD];omega) (by simpa using h1)
 simp only [Nat.add_zero,aB,aD,bH] at hst
 simp [Instr.storeAt,Instr.sureAddr,storeVar,Sy.szB_ok hz,hv,hst]
end
section
theorem aKx {P:Program} {F:Nat→Prop} {w:World} {b o sz:Nat} {xs:List Value} {ty:TypeId} (h:Sy.SlAt F w (some ⟨b,o,none⟩) 1 sz xs) (hb:Sy.aggB P ty=some false) (j:Nat) {v:Value} (hv:xs[j]?=some v) {W:World} (hk:Sy.Keep F w W):
  (Instr.loadAt ty (.pointer (some ⟨b,o+j,none⟩))).run P W = .ok v W:=by
 have:=Sy.load_sl h hb 0 j (by simpa using hv) hk
 simpa [Sy.gB,Sy.oB] using this
def x8 (a:Int):Int:=IntKind.u8.wrap ((BitVec.ofInt IntKind.u8.bits a ^^^ BitVec.ofInt IntKind.u8.bits 64).toNat:Int)
end
section
theorem aF1 {F:Nat→Prop} {w:World} {k ty n:Nat} {vals:List Value} (h:w.heap[k]?=some (.cells vals.toArray ty (0,0))) (hF:F k) (hn:vals.length=n):Sy.SlAt F w (some ⟨k,0,none⟩) 1 n vals:=
 ⟨by omega,.inr ⟨rfl,hF,fun j v hv=>by
  simp only [World.cell?,Sy.gB,Sy.oB,bH]
  rw [h]
  simpa using hv⟩⟩
def jH:Code→Code
 | .seq _ b=>b
 | c=>c
end
section
set_option maxRecDepth 100000
noncomputable def okE (r:Nat) (e:Ex):Bool:=decide (hgt e≤r)&&(exT e).isSome
noncomputable def lG (r:Nat) (l:List Ex):Bool:=decide (dB l≤r)&&(kF l).isSome
theorem aBb (r:Nat):lG r []=true:=by simp [lG,dB,kF]
theorem rM (r:Nat) (e:Ex) (l:List Ex):lG r (e::l)=(okE r e&&lG r l):=by
 unfold lG okE
 have hh:dB (e::l)=max (hgt e) (dB l):=by simp only [dB]
 simp only [kF]
 by_cases h1:hgt e≤r
 · by_cases h2:dB l≤r
   · rw [decide_eq_true (show dB (e::l)≤r by omega),decide_eq_true h1,decide_eq_true h2]
     cases exT e with
     | none=>rfl
     | some t=>cases kF l <;> rfl
   · rw [decide_eq_false (show ¬ dB (e::l)≤r by omega),decide_eq_false h2]
     simp
 · rw [decide_eq_false (show ¬ dB (e::l)≤r by omega),decide_eq_false h1]
   simp
theorem aA1 (r:Nat):∀ (l m:List Ex),lG r (l++m)=(lG r l&&lG r m)
 | [],m=>by simp [aBb]
 | e::l,m=>by rw [bO,rM,rM,aA1 r l m,Bool.and_assoc]
theorem nU (e:Ex):okE 0 e=false:=by
 cases e
 unfold okE
 simp [hgt]
noncomputable def sS (op ty:Int) (bn:Nat):Bool:=if op=1 then lX ty bn else vEq ty bn 0 0
noncomputable def sO (op:Int) (name:List UInt8):Bool:=if op=2 then b7 name else Sy.bEqL name []
theorem aHj (ty:Int) (bn:Nat):vEq ty bn 0 0=true↔ty=0∧(bn:Int)=0:=by
 unfold vEq
 rw [Sy.intEq_eq,Sy.intEq_eq]
 simp
theorem zC (name:List UInt8):Sy.bEqL name []=true↔name=[]:=by
 rw [Sy.bEqL_eq]
 simp
theorem wK (r:Nat) (op ty:Int) (bn:Nat) (name:List UInt8) (kids:List Ex) (hb:bn<18446744073709551616):
  okE (r+1) (.mk op ty bn name kids)=(decide (gW op=(kids.length:Int))&&(lG r kids&&(sS op ty bn&&sO op name))):=by
 unfold okE lG
 have hh:hgt (.mk op ty bn name kids)=dB kids+1:=by simp only [hgt]
 by_cases h:dB kids≤r
 · rw [decide_eq_true (show hgt (.mk op ty bn name kids)≤r+1 by omega),decide_eq_true h]
   simp only [exT,Bool.true_and]
   cases hx:kF kids with
   | none=>simp
   | some ks=>
     have hl:=qW hx
     simp only [Option.isSome_some,Bool.true_and]
     by_cases z1:op≠1∧¬ (ty=0∧(bn:Int)=0)
     · have:sS op ty bn=false:=by
        unfold sS
        rw [if_neg z1.1,← Bool.not_eq_true,aHj]
        exact z1.2
       rw [this,if_pos (.inl z1)]
       simp
     by_cases z2:op≠2∧name≠[]
     · have:sO op name=false:=by
        unfold sO
        rw [if_neg z2.1,← Bool.not_eq_true,zC]
        exact z2.2
       rw [this,if_pos (.inr z2)]
       simp
     rw [if_neg (by rintro (h | h) <;> contradiction)]
     have hz:op≠1→sS op ty bn=true:=fun h=>by
      unfold sS
      rw [if_neg h,aHj]
      exact Classical.byContradiction fun h'=>z1 ⟨h,h'⟩
     have hn:op≠2→sO op name=true:=fun h=>by
      unfold sO
      rw [if_neg h,zC]
      exact Classical.byContradiction fun h'=>z2 ⟨h,h'⟩
     have hk0:kids.length=ks.length:=hl.symm
     rw [hk0]
     by_cases c1:op=1
     · subst c1
       rw [if_pos rfl,hn (by decide),show gW 1=0 from rfl,show sS 1 ty bn=lX ty bn from rfl,(xX ty bn hb).1]
       cases ks <;> simp <;> omega
     rw [if_neg c1]
     by_cases c2:op=2
     · subst c2
       rw [if_pos rfl,hz (by decide),show gW 2=0 from rfl,show sO 2 name=b7 name from rfl]
       cases ks with
       | nil=>cases b7 name <;> simp
       | cons a b=>simp;omega
     rw [if_neg c2,hz c1,hn c2]
     unfold gW
     rw [if_neg (show ¬ (op=1∨op=2) by omega)]
     by_cases c3:3≤op∧op≤15
     · rw [if_pos c3,if_pos c3]
       match ks with
       | []=>simp
       | [_]=>simp
       | [_,_]=>simp
       | _::_::_::l=>simp;omega
     rw [if_neg c3,if_neg c3]
     by_cases c4:16≤op∧op≤19
     · rw [if_pos c4]
       have h4:op=16∨op=17∨op=18∨op=19:=by omega
       match ks with
       | []=>rcases h4 with h | h | h | h <;> simp [h]
       | [_]=>rcases h4 with h | h | h | h <;> simp [h]
       | _::_::l=>rcases h4 with h | h | h | h <;> simp [h] <;> omega
     · rw [if_neg c4,if_neg (show ¬ op=16 by omega),if_neg (show ¬ op=17 by omega),if_neg (show ¬ op=18 by omega),if_neg (show ¬ op=19 by omega)]
       simp
 · rw [decide_eq_false (show ¬ hgt (.mk op ty bn name kids)≤r+1 by omega),decide_eq_false h]
   simp
theorem aHn:∀ (l r:List Ex),iW (l++r)=iW l+iW r
 | [],r=>by simp [iW]
 | e::l,r=>by
   rw [bO]
   simp only [iW]
   rw [aHn l r]
   omega
open Go.Sy
theorem aBc (ty bits:Int) (w:World):CB 113 #[.agg #[n8 ty,n6 bits]] w (.bool (vEq ty bits 0 0)):=by
 refine eN [.agg #[n8 ty,n6 bits]] Tryz.func113 (fun γ0 hγ0=>?_)
 refine rs [5] 60 0 ?_
 refine gV (.bool (vEq ty bits 0 0)) (S:=(do eqGuard .eql 42 (.tmp 3) (.tmp 4) (.agg #[n8 ty,n6 bits]) (.agg #[n8 0,n6 0]);binOp .eql 42 (.agg #[n8 ty,n6 bits]) (.agg #[n8 0,n6 0]))) (fun W _=>vY _ _ _ _ _ _ W) (rs [] 60 1 ?_)
 exact gR (.bool (vEq ty bits 0 0)) (fun W hk=>⟨rfl,hk.below⟩)
theorem rR:∀ (N:Nat) (e:Ex) (cs:List Value) (r:Nat) (w:World),wgt e≤N→wgt e≤1000000000000→r≤1000→exB e≤1000000000000→exR e→Tab w→ExAt (·<w.heap.size) w e cs→
  Calls Tryz.prog 91 #[.agg cs.toArray,nI (r:Int)] w fun v w'=>∃ h,v = .returned (.tuple #[nI h,.bool (okE r e)])∧(okE r e=true→h=(hgt e:Nat))∧Below w.heap.size w w':=by
 intro N
 induction N with
 | zero=>intro e cs r w h;have:=fS e;omega
 | succ N ihN=>
   intro e cs r w hN hbd hr hB hR ht hat
   obtain ⟨op,ty,bits,name,kids⟩:=e
   simp only [ExAt] at hat
   obtain ⟨a,cap,xs,rfl,hsl,hks⟩:=hat
   simp only [exR] at hR
   obtain ⟨hop,hty,hbit,hkR⟩:=hR
   obtain ⟨bn,rfl⟩:∃ bn:Nat,bits=(bn:Int):=⟨bits.toNat,by omega⟩
   have hbn:bn<18446744073709551616:=by omega
   simp only [wgt] at hN hbd
   simp only [exB] at hB
   have hnm:name.length≤maxLen:=by unfold maxLen;omega
   obtain ⟨n,hn⟩:∃ n,n=kids.length:=⟨_,rfl⟩
   have hnl:=qJ kids
   rw [← hn] at hsl hnl ⊢
   refine eN [xV op ty (bn:Int) name a n cap,nI (r:Int)] Tryz.func91 (fun γ0 hγ0=>?_)
   refine rk ?_
   refine gP [n8 op] (nI (gW op)) (fun W hk=>aRb op W) (rs [20] 60 0 ?_)
   by_cases hk0:gW op<0
   ·
    refine zx 18 (gW op) 0 hk0 ?_
    refine zx 19 (gW op) 0 hk0 (rs [] 60 4 ?_)
    refine gR (.tuple #[nI 0,.bool false]) (fun W hk=>⟨0,?_,fun h=>?_,hk.below⟩)
    · rw [show okE r (.mk op ty bn name kids)=false by cases r with | zero=>exact nU _ | succ r=>rw [wK _ _ _ _ _ _ hbn,decide_eq_false (by omega)];rfl]
    · rw [show okE r (.mk op ty bn name kids)=false by cases r with | zero=>exact nU _ | succ r=>rw [wK _ _ _ _ _ _ hbn,decide_eq_false (by omega)];rfl] at h;cases h
   refine zy 18 (gW op) 0 hk0 ?_
   refine zy 19 (gW op) 0 hk0 (rs [27] 60 0 ?_)
   by_cases hk1:(n:Int)=gW op
   rotate_left
   ·
    refine gS 24 (x := .bool (!(intEq (n:Int) (gW op)))) (.bool true) (by rw [lC hk1];rfl) ?_
    refine gS 25 (x := .bool (!(intEq (n:Int) (gW op)))) (.bool true) (by rw [lC hk1];rfl) ?_
    refine gS 26 (x := .bool (!(intEq (n:Int) (gW op)))) (.bool true) (by rw [lC hk1];rfl) (rs [] 60 4 ?_)
    refine gR (.tuple #[nI 0,.bool false]) (fun W hk=>⟨0,?_,fun h=>?_,hk.below⟩)
    · rw [show okE r (.mk op ty bn name kids)=false by cases r with | zero=>exact nU _ | succ r=>rw [wK _ _ _ _ _ _ hbn,decide_eq_false (by omega)];rfl]
    · rw [show okE r (.mk op ty bn name kids)=false by cases r with | zero=>exact nU _ | succ r=>rw [wK _ _ _ _ _ _ hbn,decide_eq_false (by omega)];rfl] at h;cases h
   refine gS 24 (x := .bool (!(intEq (n:Int) (gW op)))) (.bool false) (by rw [nX hk1];rfl) ?_
   refine gS 25 (x := .bool (!(intEq (n:Int) (gW op)))) (.bool false) (by rw [nX hk1];rfl) ?_
   refine gS 26 (x := .bool (!(intEq (n:Int) (gW op)))) (.bool false) (by rw [nX hk1];rfl) (rk ?_)
   cases r with
   | zero=>
     refine gK true (b:=intLt ((0:Nat):Int) 1) (rfl) (rs [] 60 1 ?_)
     exact gR (.tuple #[nI 0,.bool false]) (fun W hk=>⟨0,(congrArg (fun b=>Ending.returned (.tuple #[nI 0,.bool b])) (nU _).symm),(fun h=>by rw [nU] at h;cases h),hk.below⟩)
   | succ r=>
     rw [wK _ _ _ _ _ _ hbn,decide_eq_true (by omega),Bool.true_and]
     refine ky ((r+1:Nat):Int) 1 (by omega) ?_
     obtain ⟨L,hL⟩:∃ L,L=sS op ty bn:=⟨_,rfl⟩
     obtain ⟨M,hM⟩:∃ M,M=sO op name:=⟨_,rfl⟩
     rw [← hL,← hM]
     have hγ1:∀ b,gz+1≤b→γ0 b=none:=fun b hb=>hγ0 b (bC (Nat.le_succ _) hb)
     have tail:Go.Sy.Good Tryz.prog (·<w.heap.size) w γ0 Tryz.f91.ntmps (bodyPostD Tryz.prog Tryz.f91 (fun e w'=>∃ h,e = .returned (.tuple #[nI h,.bool (lG r kids&&(L&&M))])∧((lG r kids&&(L&&M))=true→h=(hgt (.mk op ty bn name kids):Nat))∧Below w.heap.size w w')) ⟨[.code (jH (jH (jH (jH (jH (Tryz.f91.body.getD .skip))))))],⟨mkT [(1,vI ((r+1:Nat):Int)),(2,.ptr gz 0),(7,vB L),(8,vB M)],mkH [(gz,bK 51 5 (xA op ty (bn:Int) name a n cap))],gz+1,[]⟩⟩:=by
      refine rk ?_
      refine cF ?_
      refine cZ (fun i:List Ex×List Ex=>i.2.length) (fun i=>kids=i.1++i.2∧lG r i.1=true) (fun i=>⟨mkT [(1,vI ((r+1:Nat):Int)),(7,vB L),(8,vB M),(9,vI ((dB i.1:Nat):Int)),(49,vL a n cap),(50,vI (n:Int)),(51,vI (i.1.length:Int))],mkH [(gz,bK 51 5 (xA op ty (bn:Int) name a n cap))],gz+1,[]⟩)
       ([],kids) ⟨rfl,aBb r⟩ (by kernel_rfl)
       (fun h=>gU _ [(1,vI ((r+1:Nat):Int)),(7,vB L),(8,vB M),(9,vI ((dB ([]:List Ex):Nat):Int)),(49,vL a n cap),(50,vI (n:Int)),(51,vI (([]:List Ex).length:Int))] [(gz,bK 51 5 (xA op ty (bn:Int) name a n cap))] (gz+1) hγ1 h) ?_
      rintro ⟨l1,l2⟩ ⟨hI,hok⟩ ih
      have hI:kids=l1++l2:=hI
      have hok:lG r l1=true:=hok
      have hn2:n=l1.length+l2.length:=by rw [hn,hI,aA]
      have hw1:cL kids=cL l1+cL l2:=by rw [hI,rI]
      have hh1:=sZ l1
      have hh2:=sZ kids
      refine rk ?_
      cases l2 with
      | nil=>
        refine ky (l1.length:Int) (n:Int) (by simp at hn2;omega) (rs [72] 60 0 ?_)
        have hkl:l1=kids:=by rw [hI];simp
        have e1:hgt (.mk op ty bn name l1)=dB l1+1:=by simp only [hgt]
        rw [← hkl] at hh2 ⊢
        rw [hok,Bool.true_and]
        cases L with
        | false=>
          refine rs [] 60 3 ?_
          refine gR (.tuple #[nI (cA .i64 ((dB l1:Nat)+1)),.bool (false&&M)]) (fun W hk=>⟨_,rfl,fun _=>?_,hk.below⟩)
          rw [e1,cR (by omega) (by omega)]
          omega
        | true=>
          refine rs [] 60 3 ?_
          refine gR (.tuple #[nI (cA .i64 ((dB l1:Nat)+1)),.bool (true&&M)]) (fun W hk=>⟨_,rfl,fun _=>?_,hk.below⟩)
          rw [e1,cR (by omega) (by omega)]
          omega
      | cons x l3=>
        have hin:l1.length<n:=by rw [hn2,aB];omega
        have hks2:=hks
        rw [hI] at hks2
        obtain ⟨c,hc,hcell⟩:=hks2.at_
        have hcl:=hc.len
        simp only [cL] at hw1
        have hwe:=fS x
        have hhe:=aCk x
        have hxR:exR x:=exRs_mem.1 hkR x (by rw [hI];simp)
        refine kx (l1.length:Int) (n:Int) (by omega) (rk ?_)
        refine gI 49 51 cap l1.length hsl hin (rk ?_)
        have hld:=fun W hk=>d9 (P:=Tryz.prog) (ty:=51) (m:=5) (cs:=c) hsl (by kernel_rfl) (by kernel_rfl) l1.length 0 hcl hcell (W:=W) hk
        have hcall:=fun W hk=>ihN x c r W (by omega) (by omega) (by omega) (by rw [hI] at hB;simp only [aHn,iW] at hB;omega) hxR (ht.below (Keep.below hk)) (hc.keep hk (kU hk))
        obtain ⟨op2,ty2,bits2,name2,kids2⟩:=x
        simp only [ExAt] at hc
        obtain ⟨a2,cap2,xs2,rfl,_⟩:=hc
        refine gV (xV op2 ty2 bits2 name2 a2 kids2.length cap2) (S:=Instr.loadAt 51 (.pointer (some ⟨gB a,oB a+l1.length*5+0,none⟩))) (fun W hk=>hld W hk) (rs [59] 60 0 ?_)
        refine gS 58 (x:=nI (cA .i64 (((r+1:Nat):Int) - 1))) (nI (r:Int)) (by rw [cR (by omega) (by omega)];congr 1;omega) ?_
        refine gE [xV op2 ty2 bits2 name2 a2 kids2.length cap2,nI (r:Int)] (fun v=>∃ h,v = .tuple #[nI h,.bool (okE r (Ex.mk op2 ty2 bits2 name2 kids2))]∧(okE r (Ex.mk op2 ty2 bits2 name2 kids2)=true→h=(hgt (Ex.mk op2 ty2 bits2 name2 kids2):Nat))) (fun W hk=>(hcall W hk).mono fun e w' ⟨h,h1,h2,h3⟩=>⟨_,h1,⟨h,rfl,h2⟩,h3⟩) ?_
        rintro v w2 ⟨h,rfl,hh⟩ hk2
        cases hx:okE r (Ex.mk op2 ty2 bits2 name2 kids2) with
        | false=>
          refine rs [] 60 3 ?_
          have hall:lG r kids=false:=by rw [hI,aA1,rM,hx];simp
          refine gR (.tuple #[nI 0,.bool false]) (fun W hk=>⟨0,(by rw [hall];rfl),(fun h=>by rw [hall] at h;cases h),hk.below⟩)
        | true=>
          have hh:=hh hx
          subst hh
          refine rs [] 60 1 ?_
          have hs1:lG r (l1++[(Ex.mk op2 ty2 bits2 name2 kids2)])=true:=by rw [aA1,rM,hok,hx,aBb];rfl
          refine gS 9 (x:=nI (if ((hgt (Ex.mk op2 ty2 bits2 name2 kids2):Nat):Int) > ((dB l1:Nat):Int) then ((hgt (Ex.mk op2 ty2 bits2 name2 kids2):Nat):Int) else ((dB l1:Nat):Int))) (nI ((dB (l1++[(Ex.mk op2 ty2 bits2 name2 kids2)]):Nat):Int)) (by rw [aD0];congr 1;split <;> omega) ?_
          refine gS 51 (x:=nI (cA .i64 ((l1.length:Int)+1))) (nI ((l1++[(Ex.mk op2 ty2 bits2 name2 kids2)]).length:Nat)) (by rw [cR (by omega) (by omega)];congr 1;simp) ?_
          exact gU _ [(1,vI ((r+1:Nat):Int)),(7,vB L),(8,vB M),(9,vI ((dB (l1++[(Ex.mk op2 ty2 bits2 name2 kids2)]):Nat):Int)),(49,vL a n cap),(50,vI (n:Int)),(51,vI ((l1++[(Ex.mk op2 ty2 bits2 name2 kids2)]).length:Int))] [(gz,bK 51 5 (xA op ty (bn:Int) name a n cap))] (gz+1) hγ1 (ih (l1++[(Ex.mk op2 ty2 bits2 name2 kids2)],l3) ⟨by show kids=(l1++[_])++l3;rw [hI];simp,hs1⟩ lS1)
     refine rk ?_
     refine kN cP (by kernel_rfl) ?_
     refine bZ [] 60 ?_
     refine qB [.agg #[n8 ty,n6 (bn:Int)]] (.bool (vEq ty (bn:Int) 0 0)) (fun W hk=>aBc _ _ W) ?_
     refine bZ [] 60 ?_
     refine qE ?_
     refine rk ?_
     by_cases c1:op=1
     ·
      refine kz op 1 c1 (rk ?_)
      refine gX [.agg #[n8 ty,n6 (bn:Int)]] (.bool (lX ty bn)) (fun W hk=>aHo ty bn hbn W (ht.below (Keep.below hk))) (rs [] 3 0 ?_)
      refine gS 7 (x := .bool (lX ty bn)) (.bool L) (by rw [hL,sS,if_pos c1]) ?_
      refine gS 8 (x := .bool (bEqL name [])) (.bool M) (by rw [hM,sO,if_neg (by omega)]) ?_
      exact gU [.code (jH (jH (jH (jH (jH (Tryz.f91.body.getD .skip))))))] [(1,vI ((r+1:Nat):Int)),(2,.ptr gz 0),(7,vB L),(8,vB M)] [(gz,bK 51 5 (xA op ty (bn:Int) name a n cap))] (gz+1) hγ1 tail
     refine kw op 1 c1 (rk ?_)
     by_cases c2:op=2
     ·
      refine kz op 2 c2 (rk ?_)
      refine gP [nT name] (.bool (b7 name)) (fun W hk=>dW name W hnm) (rs [] 3 0 ?_)
      refine gS 7 (x := .bool (vEq ty (bn:Int) 0 0)) (.bool L) (by rw [hL,sS,if_neg c1]) ?_
      refine gS 8 (x := .bool (b7 name)) (.bool M) (by rw [hM,sO,if_pos c2]) ?_
      exact gU [.code (jH (jH (jH (jH (jH (Tryz.f91.body.getD .skip))))))] [(1,vI ((r+1:Nat):Int)),(2,.ptr gz 0),(7,vB L),(8,vB M)] [(gz,bK 51 5 (xA op ty (bn:Int) name a n cap))] (gz+1) hγ1 tail
     refine kw op 2 c2 (rs [] 2 0 ?_)
     refine gS 7 (x := .bool (vEq ty (bn:Int) 0 0)) (.bool L) (by rw [hL,sS,if_neg c1]) ?_
     refine gS 8 (x := .bool (bEqL name [])) (.bool M) (by rw [hM,sO,if_neg c2]) ?_
     exact gU [.code (jH (jH (jH (jH (jH (Tryz.f91.body.getD .skip))))))] [(1,vI ((r+1:Nat):Int)),(2,.ptr gz 0),(7,vB L),(8,vB M)] [(gz,bK 51 5 (xA op ty (bn:Int) name a n cap))] (gz+1) hγ1 tail
end
section
set_option maxRecDepth 100000
open Go.Sy
theorem aN6 (p:St→Bool) (q:Nat) (L:List (St)) (a:Option Addr) (n cap:Nat) (xs:List Value) (w:World) (hn:n=L.length) (hbd:n≤1000000000000) (hsl:SlAt (·<w.heap.size) w a n 9 xs) (hks:LsAt (StAt (·<w.heap.size) w) L xs) (hf:∀ x∈L,∀ cs W,Sy.Keep (·<w.heap.size) w W→StAt (·<W.heap.size) W x cs→CB 80 #[.agg cs.toArray,nP q] W (.bool (p x))):
  Calls Tryz.prog 97 #[.slice a n cap,.func (.func 80) #[] #[nP q]] w fun e w'=>∃ i:Int,e = .returned (nI i)∧L.any p=decide (0≤i)∧Below w.heap.size w w':=by
 refine eN [.slice a n cap,.func (.func 80) #[] #[nP q]] Tryz.func97 (fun γ0 hγ0=>?_)
 refine rk ?_
 refine cF ?_
 refine cZ (fun i:List (St)×List (St)=>i.2.length) (fun i=>L=i.1++i.2∧i.1.any p=false) (fun i=>⟨mkT [(0,vL a n cap),(1,bW (.func (.func 80) #[] #[nP q])),(7,vI (n:Int)),(8,vI (i.1.length:Int))],mkH [],gz,[]⟩)
  ([],L) ⟨rfl,rfl⟩ (by kernel_rfl)
  (fun h=>gU _ [(0,vL a n cap),(1,bW (.func (.func 80) #[] #[nP q])),(7,vI (n:Int)),(8,vI (([]:List (St)).length:Int))] [] gz hγ0 h) ?_
 rintro ⟨l1,l2⟩ ⟨hI,hany⟩ ih
 have hI:L=l1++l2:=hI
 have hany:l1.any p=false:=hany
 have hn2:n=l1.length+l2.length:=by rw [hn,hI,aA]
 refine rk ?_
 cases l2 with
 | nil=>
   refine ky (l1.length:Int) (n:Int) (by simp at hn2;omega) (rk ?_)
   exact gR (nI (-1)) (fun W hk=>⟨_,rfl,(by rw [hI,bF,hany];rfl),hk.below⟩)
 | cons x l3=>
   have hin:l1.length<n:=by rw [hn2,aB];omega
   have hks2:=hks
   rw [hI] at hks2
   obtain ⟨c,hc,hcell⟩:=LsAt.at_ (k:=9) (fun _ _ h=>h.len) hks2
   have hcall:=fun W (hk:Keep (·<w.heap.size) w W)=>hf x (by rw [hI];simp) c W hk (hc.keep hk (kU hk))
   refine kx (l1.length:Int) (n:Int) (by omega) (rk ?_)
   refine gI 52 54 cap l1.length hsl hin (rk ?_)
   obtain ⟨uK,us,⟨uo,ut,uv,un,uk⟩,uB,uL⟩:=x
   simp only [StAt] at hc
   obtain ⟨ucs,uj,uh,ubx,ui,uw,ulx,rfl,uhe,_⟩:=hc
   simp only [ExAt] at uhe
   obtain ⟨uf,ug,uex,rfl,_⟩:=uhe
   refine gD 54 9 (yL uK us uo ut uv un uf uk.length ug uj uB.length uh ui uL.length uw) l1.length 0 hsl rfl hcell (rk ?_)
   cases hp:p (St.mk uK us (Ex.mk uo ut uv un uk) uB uL) with
   | true=>
     refine gX [yV uK us uo ut uv un uf uk.length ug uj uB.length uh ui uL.length uw,nP q] (.bool true) (fun W hk=>by have:=hcall W hk;rw [hp] at this;exact this) (rs [] 60 3 ?_)
     exact gR (nI (l1.length:Int)) (fun W hk=>⟨_,rfl,(by rw [hI,List.any_append,List.any_cons,hp,hany,decide_eq_true (by omega)];rfl),hk.below⟩)
   | false=>
     refine gX [yV uK us uo ut uv un uf uk.length ug uj uB.length uh ui uL.length uw,nP q] (.bool false) (fun W hk=>by have:=hcall W hk;rw [hp] at this;exact this) (rs [] 60 1 ?_)
     refine gS 8 (x:=nI (cA .i64 ((l1.length:Int)+1))) (nI ((l1++[(St.mk uK us (Ex.mk uo ut uv un uk) uB uL)]).length:Nat)) (by rw [cR (by omega) (by omega)];congr 1;simp) ?_
     exact gU _ [(0,vL a n cap),(1,bW (.func (.func 80) #[] #[nP q])),(7,vI (n:Int)),(8,vI ((l1++[(St.mk uK us (Ex.mk uo ut uv un uk) uB uL)]).length:Int))] [] gz hγ0 (ih (l1++[(St.mk uK us (Ex.mk uo ut uv un uk) uB uL)],l3) ⟨by show L=(l1++[_])++l3;rw [hI];simp,by show (l1++[_]).any p=false;rw [List.any_append,hany,List.any_cons,hp];rfl⟩ lS1)
theorem aEx (p:St→Bool) (q:Nat) (L:List (St)) (a:Option Addr) (n cap:Nat) (xs:List Value) (w:World) (hn:n=L.length) (hbd:n≤1000000000000) (hsl:SlAt (·<w.heap.size) w a n 9 xs) (hks:LsAt (StAt (·<w.heap.size) w) L xs) (hf:∀ x∈L,∀ cs W,Sy.Keep (·<w.heap.size) w W→StAt (·<W.heap.size) W x cs→CB 80 #[.agg cs.toArray,nP q] W (.bool (p x))):
  CB 79 #[.slice a n cap,.func (.func 80) #[] #[nP q]] w (.bool (L.any p)):=by
 refine eN [.slice a n cap,.func (.func 80) #[] #[nP q]] Tryz.func79 (fun γ0 hγ0=>?_)
 refine rk ?_
 refine gN [.slice a n cap,.func (.func 80) #[] #[nP q]] (fun v=>∃ i:Int,v=nI i∧L.any p=decide (0≤i)) (fun W hk=>(aN6 p q L a n cap xs W hn hbd ((hsl.keep hk).mono (kU hk)) (hks.imp fun x c hc=>hc.keep hk (kU hk)) (fun x hx cs W2 hk2=>hf x hx cs W2 (hk.trans (hk2.mono (kU hk))))).mono fun e w' ⟨i,h1,h2,h3⟩=>⟨_,h1,⟨i,rfl,h2⟩,h3⟩) ?_
 rintro v w2 ⟨i,rfl,hi⟩ hk2
 refine rk ?_
 refine gR (.bool (!(intLt i 0))) (fun W hk=>⟨?_,hk.below⟩)
 rw [hi,intLt_eq]
 by_cases h:0≤i
 · rw [decide_eq_true h,decide_eq_false (by omega)]
   rfl
 · rw [decide_eq_false h,decide_eq_true (by omega)]
   rfl
theorem aOj (p:Vr→Bool) (L:List (Vr)) (a:Option Addr) (n cap:Nat) (xs:List Value) (w:World) (hn:n=L.length) (hbd:n≤1000000000000) (hsl:SlAt (·<w.heap.size) w a n 3 xs) (hks:LsAt (VrAt) L xs) (hf:∀ x∈L,∀ cs W,Sy.Keep (·<w.heap.size) w W→VrAt x cs→CB 39 #[.agg cs.toArray] W (.bool (p x))):
  Calls Tryz.prog 74 #[.slice a n cap,.func (.func 39) #[] #[]] w fun e w'=>∃ i:Int,e = .returned (nI i)∧L.any p=decide (0≤i)∧Below w.heap.size w w':=by
 refine eN [.slice a n cap,.func (.func 39) #[] #[]] Tryz.func74 (fun γ0 hγ0=>?_)
 refine rk ?_
 refine cF ?_
 refine cZ (fun i:List (Vr)×List (Vr)=>i.2.length) (fun i=>L=i.1++i.2∧i.1.any p=false) (fun i=>⟨mkT [(0,vL a n cap),(1,bW (.func (.func 39) #[] #[])),(7,vI (n:Int)),(8,vI (i.1.length:Int))],mkH [],gz,[]⟩)
  ([],L) ⟨rfl,rfl⟩ (by kernel_rfl)
  (fun h=>gU _ [(0,vL a n cap),(1,bW (.func (.func 39) #[] #[])),(7,vI (n:Int)),(8,vI (([]:List (Vr)).length:Int))] [] gz hγ0 h) ?_
 rintro ⟨l1,l2⟩ ⟨hI,hany⟩ ih
 have hI:L=l1++l2:=hI
 have hany:l1.any p=false:=hany
 have hn2:n=l1.length+l2.length:=by rw [hn,hI,aA]
 refine rk ?_
 cases l2 with
 | nil=>
   refine ky (l1.length:Int) (n:Int) (by simp at hn2;omega) (rk ?_)
   exact gR (nI (-1)) (fun W hk=>⟨_,rfl,(by rw [hI,bF,hany];rfl),hk.below⟩)
 | cons x l3=>
   have hin:l1.length<n:=by rw [hn2,aB];omega
   have hks2:=hks
   rw [hI] at hks2
   obtain ⟨c,hc,hcell⟩:=LsAt.at_ (k:=3) (fun _ _ h=>h.len) hks2
   have hcall:=fun W (hk:Keep (·<w.heap.size) w W)=>hf x (by rw [hI];simp) c W hk (hc)
   refine kx (l1.length:Int) (n:Int) (by omega) (rk ?_)
   refine gI 23 47 cap l1.length hsl hin (rk ?_)
   obtain ⟨uname,ut,uv⟩:=x
   obtain rfl:c=[nT uname,n8 ut,n6 uv]:=hc
   refine gD 47 3 [nT uname,n8 ut,n6 uv] l1.length 0 hsl rfl hcell (rk ?_)
   cases hp:p (Vr.mk uname ut uv) with
   | true=>
     refine gX [.agg #[nT uname,n8 ut,n6 uv]] (.bool true) (fun W hk=>by have:=hcall W hk;rw [hp] at this;exact this) (rs [] 60 3 ?_)
     exact gR (nI (l1.length:Int)) (fun W hk=>⟨_,rfl,(by rw [hI,List.any_append,List.any_cons,hp,hany,decide_eq_true (by omega)];rfl),hk.below⟩)
   | false=>
     refine gX [.agg #[nT uname,n8 ut,n6 uv]] (.bool false) (fun W hk=>by have:=hcall W hk;rw [hp] at this;exact this) (rs [] 60 1 ?_)
     refine gS 8 (x:=nI (cA .i64 ((l1.length:Int)+1))) (nI ((l1++[(Vr.mk uname ut uv)]).length:Nat)) (by rw [cR (by omega) (by omega)];congr 1;simp) ?_
     exact gU _ [(0,vL a n cap),(1,bW (.func (.func 39) #[] #[])),(7,vI (n:Int)),(8,vI ((l1++[(Vr.mk uname ut uv)]).length:Int))] [] gz hγ0 (ih (l1++[(Vr.mk uname ut uv)],l3) ⟨by show L=(l1++[_])++l3;rw [hI];simp,by show (l1++[_]).any p=false;rw [List.any_append,hany,List.any_cons,hp];rfl⟩ lS1)
theorem rX (p:Vr→Bool) (L:List (Vr)) (a:Option Addr) (n cap:Nat) (xs:List Value) (w:World) (hn:n=L.length) (hbd:n≤1000000000000) (hsl:SlAt (·<w.heap.size) w a n 3 xs) (hks:LsAt (VrAt) L xs) (hf:∀ x∈L,∀ cs W,Sy.Keep (·<w.heap.size) w W→VrAt x cs→CB 39 #[.agg cs.toArray] W (.bool (p x))):
  CB 41 #[.slice a n cap,.func (.func 39) #[] #[]] w (.bool (L.any p)):=by
 refine eN [.slice a n cap,.func (.func 39) #[] #[]] Tryz.func41 (fun γ0 hγ0=>?_)
 refine rk ?_
 refine gN [.slice a n cap,.func (.func 39) #[] #[]] (fun v=>∃ i:Int,v=nI i∧L.any p=decide (0≤i)) (fun W hk=>(aOj p L a n cap xs W hn hbd ((hsl.keep hk).mono (kU hk)) (hks.imp fun x c hc=>hc) (fun x hx cs W2 hk2=>hf x hx cs W2 (hk.trans (hk2.mono (kU hk))))).mono fun e w' ⟨i,h1,h2,h3⟩=>⟨_,h1,⟨i,rfl,h2⟩,h3⟩) ?_
 rintro v w2 ⟨i,rfl,hi⟩ hk2
 refine rk ?_
 refine gR (.bool (!(intLt i 0))) (fun W hk=>⟨?_,hk.below⟩)
 rw [hi,intLt_eq]
 by_cases h:0≤i
 · rw [decide_eq_true h,decide_eq_false (by omega)]
   rfl
 · rw [decide_eq_false h,decide_eq_true (by omega)]
   rfl
theorem aOv (p:List UInt8→Bool) (L:List (List UInt8)) (a:Option Addr) (n cap:Nat) (xs:List Value) (w:World) (hn:n=L.length) (hbd:n≤1000000000000) (hsl:SlAt (·<w.heap.size) w a n 1 xs) (hks:LsAt (TxAt) L xs) (hf:∀ x∈L,∀ cs W,Sy.Keep (·<w.heap.size) w W→TxAt x cs→Calls Tryz.prog 43 (cs.toArray) W fun e w'=>e = .returned (.bool (p x))∧Below W.heap.size W w'):
  Calls Tryz.prog 75 #[.slice a n cap,.func (.func 43) #[] #[]] w fun e w'=>∃ i:Int,e = .returned (nI i)∧L.any p=decide (0≤i)∧Below w.heap.size w w':=by
 refine eN [.slice a n cap,.func (.func 43) #[] #[]] Tryz.func75 (fun γ0 hγ0=>?_)
 refine rk ?_
 refine cF ?_
 refine cZ (fun i:List (List UInt8)×List (List UInt8)=>i.2.length) (fun i=>L=i.1++i.2∧i.1.any p=false) (fun i=>⟨mkT [(0,vL a n cap),(1,bW (.func (.func 43) #[] #[])),(7,vI (n:Int)),(8,vI (i.1.length:Int))],mkH [],gz,[]⟩)
  ([],L) ⟨rfl,rfl⟩ (by kernel_rfl)
  (fun h=>gU _ [(0,vL a n cap),(1,bW (.func (.func 43) #[] #[])),(7,vI (n:Int)),(8,vI (([]:List (List UInt8)).length:Int))] [] gz hγ0 h) ?_
 rintro ⟨l1,l2⟩ ⟨hI,hany⟩ ih
 have hI:L=l1++l2:=hI
 have hany:l1.any p=false:=hany
 have hn2:n=l1.length+l2.length:=by rw [hn,hI,aA]
 refine rk ?_
 cases l2 with
 | nil=>
   refine ky (l1.length:Int) (n:Int) (by simp at hn2;omega) (rk ?_)
   exact gR (nI (-1)) (fun W hk=>⟨_,rfl,(by rw [hI,bF,hany];rfl),hk.below⟩)
 | cons x l3=>
   have hin:l1.length<n:=by rw [hn2,aB];omega
   have hks2:=hks
   rw [hI] at hks2
   obtain ⟨c,hc,hcell⟩:=LsAt.at_ (k:=1) (fun _ _ h=>h.len) hks2
   have hcall:=fun W (hk:Keep (·<w.heap.size) w W)=>hf x (by rw [hI];simp) c W hk (hc)
   refine kx (l1.length:Int) (n:Int) (by omega) (rk ?_)
   refine gI 24 9 cap l1.length hsl hin (rk ?_)
   obtain rfl:c=[nT x]:=hc
   refine gL 9 (nT x) l1.length 0 hsl (hcell 0 _ rfl) (rk ?_)
   cases hp:p x with
   | true=>
     refine gX [nT x] (.bool true) (fun W hk=>by have:=hcall W hk;rw [hp] at this;exact this) (rs [] 60 3 ?_)
     exact gR (nI (l1.length:Int)) (fun W hk=>⟨_,rfl,(by rw [hI,List.any_append,List.any_cons,hp,hany,decide_eq_true (by omega)];rfl),hk.below⟩)
   | false=>
     refine gX [nT x] (.bool false) (fun W hk=>by have:=hcall W hk;rw [hp] at this;exact this) (rs [] 60 1 ?_)
     refine gS 8 (x:=nI (cA .i64 ((l1.length:Int)+1))) (nI ((l1++[x]).length:Nat)) (by rw [cR (by omega) (by omega)];congr 1;simp) ?_
     exact gU _ [(0,vL a n cap),(1,bW (.func (.func 43) #[] #[])),(7,vI (n:Int)),(8,vI ((l1++[x]).length:Int))] [] gz hγ0 (ih (l1++[x],l3) ⟨by show L=(l1++[_])++l3;rw [hI];simp,by show (l1++[_]).any p=false;rw [List.any_append,hany,List.any_cons,hp];rfl⟩ lS1)
theorem aEi (p:List UInt8→Bool) (L:List (List UInt8)) (a:Option Addr) (n cap:Nat) (xs:List Value) (w:World) (hn:n=L.length) (hbd:n≤1000000000000) (hsl:SlAt (·<w.heap.size) w a n 1 xs) (hks:LsAt (TxAt) L xs) (hf:∀ x∈L,∀ cs W,Sy.Keep (·<w.heap.size) w W→TxAt x cs→Calls Tryz.prog 43 (cs.toArray) W fun e w'=>e = .returned (.bool (p x))∧Below W.heap.size W w'):
  CB 42 #[.slice a n cap,.func (.func 43) #[] #[]] w (.bool (L.any p)):=by
 refine eN [.slice a n cap,.func (.func 43) #[] #[]] Tryz.func42 (fun γ0 hγ0=>?_)
 refine rk ?_
 refine gN [.slice a n cap,.func (.func 43) #[] #[]] (fun v=>∃ i:Int,v=nI i∧L.any p=decide (0≤i)) (fun W hk=>(aOv p L a n cap xs W hn hbd ((hsl.keep hk).mono (kU hk)) (hks.imp fun x c hc=>hc) (fun x hx cs W2 hk2=>hf x hx cs W2 (hk.trans (hk2.mono (kU hk))))).mono fun e w' ⟨i,h1,h2,h3⟩=>⟨_,h1,⟨i,rfl,h2⟩,h3⟩) ?_
 rintro v w2 ⟨i,rfl,hi⟩ hk2
 refine rk ?_
 refine gR (.bool (!(intLt i 0))) (fun W hk=>⟨?_,hk.below⟩)
 rw [hi,intLt_eq]
 by_cases h:0≤i
 · rw [decide_eq_true h,decide_eq_false (by omega)]
   rfl
 · rw [decide_eq_false h,decide_eq_true (by omega)]
   rfl
theorem aNr (p:Th→Bool) (q:Nat) (L:List (Th)) (a:Option Addr) (n cap:Nat) (xs:List Value) (w:World) (hn:n=L.length) (hbd:n≤1000000000000) (hsl:SlAt (·<w.heap.size) w a n 3 xs) (hks:LsAt (ThAt (·<w.heap.size) w) L xs) (hf:∀ x∈L,∀ cs W,Sy.Keep (·<w.heap.size) w W→ThAt (·<W.heap.size) W x cs→CB 46 #[.agg cs.toArray,nP q] W (.bool (p x))):
  Calls Tryz.prog 78 #[.slice a n cap,.func (.func 46) #[] #[nP q]] w fun e w'=>∃ i:Int,e = .returned (nI i)∧L.any p=decide (0≤i)∧Below w.heap.size w w':=by
 refine eN [.slice a n cap,.func (.func 46) #[] #[nP q]] Tryz.func78 (fun γ0 hγ0=>?_)
 refine rk ?_
 refine cF ?_
 refine cZ (fun i:List (Th)×List (Th)=>i.2.length) (fun i=>L=i.1++i.2∧i.1.any p=false) (fun i=>⟨mkT [(0,vL a n cap),(1,bW (.func (.func 46) #[] #[nP q])),(7,vI (n:Int)),(8,vI (i.1.length:Int))],mkH [],gz,[]⟩)
  ([],L) ⟨rfl,rfl⟩ (by kernel_rfl)
  (fun h=>gU _ [(0,vL a n cap),(1,bW (.func (.func 46) #[] #[nP q])),(7,vI (n:Int)),(8,vI (([]:List (Th)).length:Int))] [] gz hγ0 h) ?_
 rintro ⟨l1,l2⟩ ⟨hI,hany⟩ ih
 have hI:L=l1++l2:=hI
 have hany:l1.any p=false:=hany
 have hn2:n=l1.length+l2.length:=by rw [hn,hI,aA]
 refine rk ?_
 cases l2 with
 | nil=>
   refine ky (l1.length:Int) (n:Int) (by simp at hn2;omega) (rk ?_)
   exact gR (nI (-1)) (fun W hk=>⟨_,rfl,(by rw [hI,bF,hany];rfl),hk.below⟩)
 | cons x l3=>
   have hin:l1.length<n:=by rw [hn2,aB];omega
   have hks2:=hks
   rw [hI] at hks2
   obtain ⟨c,hc,hcell⟩:=LsAt.at_ (k:=3) (fun _ _ h=>h.len) hks2
   have hcall:=fun W (hk:Keep (·<w.heap.size) w W)=>hf x (by rw [hI];simp) c W hk (hc.keep hk (kU hk))
   refine kx (l1.length:Int) (n:Int) (by omega) (rk ?_)
   refine gI 25 56 cap l1.length hsl hin (rk ?_)
   obtain ⟨uname,uloc,uB⟩:=x
   obtain ⟨ua,ucap,uxs,ub,ucap2,uys,rfl,_⟩:=hc
   refine gD 56 3 [nT uname,.slice ua uloc.length ucap,.slice ub uB.length ucap2] l1.length 0 hsl rfl hcell (rk ?_)
   cases hp:p (Th.mk uname uloc uB) with
   | true=>
     refine gX [.agg #[nT uname,.slice ua uloc.length ucap,.slice ub uB.length ucap2],nP q] (.bool true) (fun W hk=>by have:=hcall W hk;rw [hp] at this;exact this) (rs [] 60 3 ?_)
     exact gR (nI (l1.length:Int)) (fun W hk=>⟨_,rfl,(by rw [hI,List.any_append,List.any_cons,hp,hany,decide_eq_true (by omega)];rfl),hk.below⟩)
   | false=>
     refine gX [.agg #[nT uname,.slice ua uloc.length ucap,.slice ub uB.length ucap2],nP q] (.bool false) (fun W hk=>by have:=hcall W hk;rw [hp] at this;exact this) (rs [] 60 1 ?_)
     refine gS 8 (x:=nI (cA .i64 ((l1.length:Int)+1))) (nI ((l1++[(Th.mk uname uloc uB)]).length:Nat)) (by rw [cR (by omega) (by omega)];congr 1;simp) ?_
     exact gU _ [(0,vL a n cap),(1,bW (.func (.func 46) #[] #[nP q])),(7,vI (n:Int)),(8,vI ((l1++[(Th.mk uname uloc uB)]).length:Int))] [] gz hγ0 (ih (l1++[(Th.mk uname uloc uB)],l3) ⟨by show L=(l1++[_])++l3;rw [hI];simp,by show (l1++[_]).any p=false;rw [List.any_append,hany,List.any_cons,hp];rfl⟩ lS1)
theorem aNx (p:Th→Bool) (q:Nat) (L:List (Th)) (a:Option Addr) (n cap:Nat) (xs:List Value) (w:World) (hn:n=L.length) (hbd:n≤1000000000000) (hsl:SlAt (·<w.heap.size) w a n 3 xs) (hks:LsAt (ThAt (·<w.heap.size) w) L xs) (hf:∀ x∈L,∀ cs W,Sy.Keep (·<w.heap.size) w W→ThAt (·<W.heap.size) W x cs→CB 46 #[.agg cs.toArray,nP q] W (.bool (p x))):
  CB 45 #[.slice a n cap,.func (.func 46) #[] #[nP q]] w (.bool (L.any p)):=by
 refine eN [.slice a n cap,.func (.func 46) #[] #[nP q]] Tryz.func45 (fun γ0 hγ0=>?_)
 refine rk ?_
 refine gN [.slice a n cap,.func (.func 46) #[] #[nP q]] (fun v=>∃ i:Int,v=nI i∧L.any p=decide (0≤i)) (fun W hk=>(aNr p q L a n cap xs W hn hbd ((hsl.keep hk).mono (kU hk)) (hks.imp fun x c hc=>hc.keep hk (kU hk)) (fun x hx cs W2 hk2=>hf x hx cs W2 (hk.trans (hk2.mono (kU hk))))).mono fun e w' ⟨i,h1,h2,h3⟩=>⟨_,h1,⟨i,rfl,h2⟩,h3⟩) ?_
 rintro v w2 ⟨i,rfl,hi⟩ hk2
 refine rk ?_
 refine gR (.bool (!(intLt i 0))) (fun W hk=>⟨?_,hk.below⟩)
 rw [hi,intLt_eq]
 by_cases h:0≤i
 · rw [decide_eq_true h,decide_eq_false (by omega)]
   rfl
 · rw [decide_eq_false h,decide_eq_true (by omega)]
   rfl
end
section
theorem aN3 (e:Ex):(lY e).isSome=okE 32 e:=by
 unfold lY okE
 by_cases h:hgt e≤32
 · rw [if_pos h,decide_eq_true h,Bool.true_and]
 · rw [if_neg h,decide_eq_false h]
   rfl
noncomputable def okS (deep:Nat) (s:St):Bool:=(stT deep s).isSome
noncomputable def okB (deep:Nat) (l:List St):Bool:=(dQ deep l).isSome
theorem aKj (deep:Nat) (h:deep≤32):∀ (l:List St),okB deep l=!(l.any fun s=>!(okS deep s))
 | []=>rfl
 | s::l=>by
   have ih:=aKj deep h l
   unfold okB okS at *
   simp only [dQ,List.any_cons]
   rw [if_neg (by omega)]
   cases stT deep s with
   | none=>rfl
   | some t=>
     cases hx:dQ deep l with
     | none=>rw [hx] at ih;simp at ih ⊢;exact ih
     | some ts=>rw [hx] at ih;simp at ih ⊢;exact ih
theorem aQr (deep:Nat) (h:32<deep) (l:List St):okB deep l=decide (l.length=0):=by
 cases l with
 | nil=>rfl
 | cons s l=>unfold okB;simp only [dQ];rw [if_pos h];rfl
theorem cO (deep:Nat) (k:Int) (name:List UInt8) (e:Ex) (body els:List St) (hk:1≤k∧k≤7):
  okS deep (.mk k name e body els)=((if k=1∨k=2∨k=3 then b7 name else Sy.bEqL name [])&&((if k=1∨k=4∨k=5∨k=6 then okE 32 e else iS e)&&((decide (k=5) || decide (els.length=0))&&((decide (k=5∨k=6) || decide (body.length=0))&&(okB (deep+1) body&&okB (deep+1) els))))):=by
 have hbody:body.length=0→okB (deep+1) body=true:=fun h=>by rw [aF h];rfl
 have hels:els.length=0→okB (deep+1) els=true:=fun h=>by rw [aF h];rfl
 rw [← aN3]
 have hnm:Sy.bEqL name []=decide (name=[]):=by
  rw [Bool.eq_iff_iff,zC]
  simp
 rw [hnm]
 have h7:k=1∨k=2∨k=3∨k=4∨k=7∨k=5∨k=6:=by omega
 rcases h7 with rfl | rfl | rfl | rfl | rfl | rfl | rfl
 case inr.inr.inr.inr.inr.inl=>
  unfold okS okB
  simp only [stT]
  cases hB:dQ (deep+1) body <;> cases hL:dQ (deep+1) els <;> cases hx:lY e <;> by_cases hn:name=[] <;> by_cases h2:els.length=0 <;> simp [*]
  all_goals (first | omega | (split <;> rfl))
 case inr.inr.inr.inr.inr.inr=>
  unfold okS okB
  simp only [stT]
  cases hB:dQ (deep+1) body <;> cases hL:dQ (deep+1) els <;> cases hx:lY e <;> by_cases hn:name=[] <;> by_cases h2:els.length=0 <;> simp [*]
  all_goals (first | omega | (split <;> rfl))
 all_goals
  unfold okS
  simp only [stT]
  by_cases h1:body.length=0
  · have hb':=hbody h1
    by_cases h2:els.length=0
    · have he':=hels h2
      cases hn:b7 name <;> cases hx:lY e <;> by_cases hm:name=[] <;> cases hq:iS e <;> simp [*]
    · simp [h2]
  · simp [h1]
theorem iO (ty bits:Int):vEq ty bits 0 0=decide (ty=0∧bits=0):=by
 unfold vEq
 rw [Sy.intEq_eq,Sy.intEq_eq]
 by_cases h1:ty=0 <;> by_cases h2:bits=0 <;> simp [h1,h2]
open Go.Sy in
set_option maxRecDepth 100000 in
theorem sH (uo ut uv:Int) (un:List UInt8) (uk:List Ex) (uf:Option Addr) (ug:Nat) (w:World):CB 98 #[xV uo ut uv un uf uk.length ug] w (.bool (iS (Ex.mk uo ut uv un uk))):=by
 refine eN [xV uo ut uv un uf uk.length ug] Tryz.func98 (fun γ0 hγ0=>?_)
 refine rs [7] 60 0 ?_
 by_cases h1:uo=0
 rotate_left
 ·
  refine gF 5 uo 0 h1 ?_
  refine gF 6 uo 0 h1 (rs [] 60 3 ?_)
  refine gR (.bool false) (fun W hk=>⟨?_,hk.below⟩)
  simp [iS,h1]
 refine gT 5 uo 0 h1 ?_
 refine gT 6 uo 0 h1 (rk ?_)
 have hv:=iO ut uv
 cases h2:vEq ut uv 0 0 with
 | false=>
   rw [h2] at hv
   refine gX [.agg #[n8 ut,n6 uv]] (.bool false) (fun W hk=>by rw [← h2];exact aBc _ _ W) (rs [] 60 3 ?_)
   refine gR (.bool false) (fun W hk=>⟨?_,hk.below⟩)
   have hx:iS (Ex.mk uo ut uv un uk)=false:=by
    simp only [iS,decide_eq_false_iff_not]
    rintro ⟨_,h3,h4,_⟩
    exact of_decide_eq_false hv.symm ⟨h3,h4⟩
   rw [hx]
 | true=>
   rw [h2] at hv
   obtain ⟨hv1,hv2⟩:=of_decide_eq_true hv.symm
   refine gX [.agg #[n8 ut,n6 uv]] (.bool true) (fun W hk=>by rw [← h2];exact aBc _ _ W) (rs [17] 60 0 ?_)
   by_cases h3:un=[]
   rotate_left
   ·
    refine gS 14 (x := .bool (bEqL un [])) (.bool false) (by rw [bEqL_eq];simp [h3]) ?_
    refine gS 15 (x := .bool (bEqL un [])) (.bool false) (by rw [bEqL_eq];simp [h3]) ?_
    refine gS 16 (x := .bool (bEqL un [])) (.bool false) (by rw [bEqL_eq];simp [h3]) (rs [] 60 3 ?_)
    refine gR (.bool false) (fun W hk=>⟨?_,hk.below⟩)
    simp [iS,h3]
   refine gS 14 (x := .bool (bEqL un [])) (.bool true) (by rw [bEqL_eq];simp [h3]) ?_
   refine gS 15 (x := .bool (bEqL un [])) (.bool true) (by rw [bEqL_eq];simp [h3]) ?_
   refine gS 16 (x := .bool (bEqL un [])) (.bool true) (by rw [bEqL_eq];simp [h3]) (rk ?_)
   refine gR (.bool (intEq (uk.length:Int) 0)) (fun W hk=>⟨?_,hk.below⟩)
   rw [intEq_eq]
   simp [iS,h1,hv1,hv2,h3]
end
section
set_option maxRecDepth 100000
theorem aEv (deep:Nat) (k:Int) (name:List UInt8) (e:Ex) (body els:List St) (hk:¬ (1≤k∧k≤7)):okS deep (.mk k name e body els)=false:=by
 unfold okS
 simp only [stT]
 rw [if_neg (show ¬ k=1 by omega),if_neg (show ¬ k=2 by omega),if_neg (show ¬ k=3 by omega),if_neg (show ¬ k=4 by omega),if_neg (show ¬ k=7 by omega),if_neg (show ¬ (k=5∨k=6) by omega)]
 rfl
theorem sA {s:List UInt8} (h:b7 s=true):Sy.bEqL s []=false:=by
 rw [← Bool.not_eq_true,zC]
 intro h2
 subst h2
 exact absurd h (by decide)
def sU (N:Nat):Prop:=∀ (L:List St) (a:Option Addr) (n cap:Nat) (xs:List Value) (deep:Nat) (w:World),n=L.length→cS L<N→cS L≤1000000000000→deep≤1000000000000+32 - cS L→j4 L≤1000000000000→j5 L→Tab w→Sy.SlAt (·<w.heap.size) w a n 9 xs→LsAt (StAt (·<w.heap.size) w) L xs→
    CB 47 #[.slice a n cap,.int .i64 (deep:Int)] w (.bool (okB deep L))
open Go.Sy
theorem aM8 (N:Nat) (ih:sU N)
  (us:List UInt8) (uo ut uv:Int) (un:List UInt8) (uk:List Ex) (uB uL:List St) (uj ui uf:Option Addr) (uh uw ug deep:Nat) (ubx ulx:List Value) (w:World)
  (hN:swt (St.mk 1 us (Ex.mk uo ut uv un uk) uB uL)≤N) (hbd:swt (St.mk 1 us (Ex.mk uo ut uv un uk) uB uL)≤1000000000000) (hdeep:deep≤1000000000000+32 - swt (St.mk 1 us (Ex.mk uo ut uv un uk) uB uL)) (hB:stB (St.mk 1 us (Ex.mk uo ut uv un uk) uB uL)≤1000000000000) (hR:stR (St.mk 1 us (Ex.mk uo ut uv un uk) uB uL)) (ht:Tab w) (uhe:ExAt (·<w.heap.size) w (Ex.mk uo ut uv un uk) (xL uo ut uv un uf uk.length ug))
  (uhbs:SlAt (·<w.heap.size) w uj uB.length 9 ubx) (uhbt:StsAt (·<w.heap.size) w uB ubx) (uhls:SlAt (·<w.heap.size) w ui uL.length 9 ulx) (uhlt:StsAt (·<w.heap.size) w uL ulx):
  CB 81 #[yV 1 us uo ut uv un uf uk.length ug uj uB.length uh ui uL.length uw,nI (deep:Int)] w (.bool (okS deep (St.mk 1 us (Ex.mk uo ut uv un uk) uB uL))):=by
 simp only [swt] at hN hbd hdeep
 simp only [stB] at hB
 simp only [stR] at hR
 obtain ⟨hRk,hRe,hRubody,hRuels⟩:=hR
 have hnm:us.length≤maxLen:=by unfold maxLen;omega
 refine eN [yV 1 us uo ut uv un uf uk.length ug uj uB.length uh ui uL.length uw,nI (deep:Int)] Tryz.func81 (fun γ0 hγ0=>?_)
 refine rk ?_
 cases hn:b7 us with
 | false=>
   refine gP [nT us] (.bool false) (fun W hk=>by rw [← hn];exact dW us W hnm) (rs [] 60 6 ?_)
   refine gR (.bool false) (fun W hk=>⟨?_,hk.below⟩)
   rw [cO _ _ _ _ _ _ (by decide)]
   simp [hn]
 | true=>
   refine gP [nT us] (.bool true) (fun W hk=>by rw [← hn];exact dW us W hnm) (rs [] 60 3 ?_)
   refine gE [xV uo ut uv un uf uk.length ug,nI 32] (fun v=>∃ h,v = .tuple #[nI h,.bool (okE 32 (Ex.mk uo ut uv un uk))]) (fun W hk=>(rR _ (Ex.mk uo ut uv un uk) (xL uo ut uv un uf uk.length ug) 32 W (aH _) (by omega) (by decide) (by omega) hRe (ht.below (Keep.below hk)) (uhe.keep hk (kU hk))).mono fun e w' ⟨h,h1,h2,h3⟩=>⟨_,h1,⟨h,rfl⟩,h3⟩) ?_
   rintro v w2 ⟨h,rfl⟩ hk2
   cases hx:okE 32 (Ex.mk uo ut uv un uk) with
   | false=>
     refine rs [] 60 6 ?_
     refine gR (.bool false) (fun W hk=>⟨?_,hk.below⟩)
     rw [cO _ _ _ _ _ _ (by decide)]
     simp [hx]
   | true=>
     refine rs [87] 60 2 ?_
     by_cases h4:uL.length=0
     rotate_left
     ·
      refine zx 84 0 (uL.length:Int) (by omega) ?_
      refine zx 85 0 (uL.length:Int) (by omega) ?_
      refine zx 86 0 (uL.length:Int) (by omega) (rs [] 60 6 ?_)
      refine gR (.bool false) (fun W hk=>⟨?_,hk.below⟩)
      rw [cO _ _ _ _ _ _ (by decide)]
      simp [h4]
     refine zy 84 0 (uL.length:Int) (by omega) ?_
     refine zy 85 0 (uL.length:Int) (by omega) ?_
     refine zy 86 0 (uL.length:Int) (by omega) (rk ?_)
     by_cases h5:uB.length=0
     rotate_left
     ·
      refine kx 0 (uB.length:Int) (by omega) (rs [] 60 6 ?_)
      refine gR (.bool false) (fun W hk=>⟨?_,hk.below⟩)
      rw [cO _ _ _ _ _ _ (by decide)]
      simp [h5]
     refine ky 0 (uB.length:Int) (by omega) (rk ?_)
     refine gS 105 (x:=nI (cA .i64 ((deep:Int)+1))) (nI ((deep+1:Nat):Int)) (by rw [cR (by omega) (by omega)];congr 1) ?_
     cases hubody:okB (deep+1) uB with
     | false=>
       refine gX [.slice uj uB.length uh,nI ((deep+1:Nat):Int)] (.bool false) (fun W hk=>by rw [← hubody];exact ih uB _ _ _ _ (deep+1) W rfl (by omega) (by omega) (by omega) (by omega) hRubody (ht.below (Keep.below hk)) ((uhbs.keep hk).mono (kU hk)) (StsAt_ls.1 (uhbt.keep hk (kU hk)))) (rs [] 60 6 ?_)
       refine gR (.bool false) (fun W hk=>⟨?_,hk.below⟩)
       rw [cO _ _ _ _ _ _ (by decide)]
       simp [hubody]
     | true=>
       refine gX [.slice uj uB.length uh,nI ((deep+1:Nat):Int)] (.bool true) (fun W hk=>by rw [← hubody];exact ih uB _ _ _ _ (deep+1) W rfl (by omega) (by omega) (by omega) (by omega) hRubody (ht.below (Keep.below hk)) ((uhbs.keep hk).mono (kU hk)) (StsAt_ls.1 (uhbt.keep hk (kU hk)))) (rs [] 60 2 ?_)
       refine gS 111 (x:=nI (cA .i64 ((deep:Int)+1))) (nI ((deep+1:Nat):Int)) (by rw [cR (by omega) (by omega)];congr 1) ?_
       obtain ⟨bl,huels⟩:∃ b,b=okB (deep+1) uL:=⟨_,rfl⟩
       refine gX [.slice ui uL.length uw,nI ((deep+1:Nat):Int)] (.bool bl) (fun W hk=>by rw [huels];exact ih uL _ _ _ _ (deep+1) W rfl (by omega) (by omega) (by omega) (by omega) hRuels (ht.below (Keep.below hk)) ((uhls.keep hk).mono (kU hk)) (StsAt_ls.1 (uhlt.keep hk (kU hk)))) (rs [] 60 2 ?_)
       refine gR (.bool bl) (fun W hk=>⟨?_,hk.below⟩)
       rw [cO _ _ _ _ _ _ (by decide)]
       simp [hn,hx,h4,h5,hubody,huels]
theorem aBn (N:Nat) (ih:sU N)
  (uK:Int) (us:List UInt8) (uo ut uv:Int) (un:List UInt8) (uk:List Ex) (uB uL:List St) (uj ui uf:Option Addr) (uh uw ug deep:Nat) (ubx ulx:List Value) (w:World)
  (hN:swt (St.mk uK us (Ex.mk uo ut uv un uk) uB uL)≤N) (hbd:swt (St.mk uK us (Ex.mk uo ut uv un uk) uB uL)≤1000000000000) (hdeep:deep≤1000000000000+32 - swt (St.mk uK us (Ex.mk uo ut uv un uk) uB uL)) (hB:stB (St.mk uK us (Ex.mk uo ut uv un uk) uB uL)≤1000000000000) (hR:stR (St.mk uK us (Ex.mk uo ut uv un uk) uB uL)) (ht:Tab w) (uhe:ExAt (·<w.heap.size) w (Ex.mk uo ut uv un uk) (xL uo ut uv un uf uk.length ug))
  (uhbs:SlAt (·<w.heap.size) w uj uB.length 9 ubx) (uhbt:StsAt (·<w.heap.size) w uB ubx) (uhls:SlAt (·<w.heap.size) w ui uL.length 9 ulx) (uhlt:StsAt (·<w.heap.size) w uL ulx) (hk:uK=2∨uK=3):
  CB 81 #[yV uK us uo ut uv un uf uk.length ug uj uB.length uh ui uL.length uw,nI (deep:Int)] w (.bool (okS deep (St.mk uK us (Ex.mk uo ut uv un uk) uB uL))):=by
 simp only [swt] at hN hbd hdeep
 simp only [stB] at hB
 simp only [stR] at hR
 obtain ⟨hRk,hRe,hRubody,hRuels⟩:=hR
 have hnm:us.length≤maxLen:=by unfold maxLen;omega
 rcases hk with rfl | rfl
 all_goals
  refine eN [yV _ us uo ut uv un uf uk.length ug uj uB.length uh ui uL.length uw,nI (deep:Int)] Tryz.func81 (fun γ0 hγ0=>?_)
  refine rk ?_
  cases hn:b7 us with
  | false=>
    refine gP [nT us] (.bool false) (fun W hk=>by rw [← hn];exact dW us W hnm) (rs [] 60 6 ?_)
    refine gR (.bool false) (fun W hk=>⟨?_,hk.below⟩)
    rw [cO _ _ _ _ _ _ (by decide)]
    simp [hn]
  | true=>
    refine gP [nT us] (.bool true) (fun W hk=>by rw [← hn];exact dW us W hnm) (rs [] 60 3 ?_)
    cases hx:iS (Ex.mk uo ut uv un uk) with
    | false=>
      refine gX [xV uo ut uv un uf uk.length ug] (.bool false) (fun W hk=>by rw [← hx];exact sH uo ut uv un uk uf ug W) (rs [] 60 6 ?_)
      refine gR (.bool false) (fun W hk=>⟨?_,hk.below⟩)
      rw [cO _ _ _ _ _ _ (by decide)]
      simp [hx]
    | true=>
      refine gX [xV uo ut uv un uf uk.length ug] (.bool true) (fun W hk=>by rw [← hx];exact sH uo ut uv un uk uf ug W) (rs [87] 60 2 ?_)
      by_cases h4:uL.length=0
      rotate_left
      ·
       refine zx 84 0 (uL.length:Int) (by omega) ?_
       refine zx 85 0 (uL.length:Int) (by omega) ?_
       refine zx 86 0 (uL.length:Int) (by omega) (rs [] 60 6 ?_)
       refine gR (.bool false) (fun W hk=>⟨?_,hk.below⟩)
       rw [cO _ _ _ _ _ _ (by decide)]
       simp [h4]
      refine zy 84 0 (uL.length:Int) (by omega) ?_
      refine zy 85 0 (uL.length:Int) (by omega) ?_
      refine zy 86 0 (uL.length:Int) (by omega) (rk ?_)
      by_cases h5:uB.length=0
      rotate_left
      ·
       refine kx 0 (uB.length:Int) (by omega) (rs [] 60 6 ?_)
       refine gR (.bool false) (fun W hk=>⟨?_,hk.below⟩)
       rw [cO _ _ _ _ _ _ (by decide)]
       simp [h5]
      refine ky 0 (uB.length:Int) (by omega) (rk ?_)
      refine gS 105 (x:=nI (cA .i64 ((deep:Int)+1))) (nI ((deep+1:Nat):Int)) (by rw [cR (by omega) (by omega)];congr 1) ?_
      cases hubody:okB (deep+1) uB with
      | false=>
        refine gX [.slice uj uB.length uh,nI ((deep+1:Nat):Int)] (.bool false) (fun W hk=>by rw [← hubody];exact ih uB _ _ _ _ (deep+1) W rfl (by omega) (by omega) (by omega) (by omega) hRubody (ht.below (Keep.below hk)) ((uhbs.keep hk).mono (kU hk)) (StsAt_ls.1 (uhbt.keep hk (kU hk)))) (rs [] 60 6 ?_)
        refine gR (.bool false) (fun W hk=>⟨?_,hk.below⟩)
        rw [cO _ _ _ _ _ _ (by decide)]
        simp [hubody]
      | true=>
        refine gX [.slice uj uB.length uh,nI ((deep+1:Nat):Int)] (.bool true) (fun W hk=>by rw [← hubody];exact ih uB _ _ _ _ (deep+1) W rfl (by omega) (by omega) (by omega) (by omega) hRubody (ht.below (Keep.below hk)) ((uhbs.keep hk).mono (kU hk)) (StsAt_ls.1 (uhbt.keep hk (kU hk)))) (rs [] 60 2 ?_)
        refine gS 111 (x:=nI (cA .i64 ((deep:Int)+1))) (nI ((deep+1:Nat):Int)) (by rw [cR (by omega) (by omega)];congr 1) ?_
        obtain ⟨bl,huels⟩:∃ b,b=okB (deep+1) uL:=⟨_,rfl⟩
        refine gX [.slice ui uL.length uw,nI ((deep+1:Nat):Int)] (.bool bl) (fun W hk=>by rw [huels];exact ih uL _ _ _ _ (deep+1) W rfl (by omega) (by omega) (by omega) (by omega) hRuels (ht.below (Keep.below hk)) ((uhls.keep hk).mono (kU hk)) (StsAt_ls.1 (uhlt.keep hk (kU hk)))) (rs [] 60 2 ?_)
        refine gR (.bool bl) (fun W hk=>⟨?_,hk.below⟩)
        rw [cO _ _ _ _ _ _ (by decide)]
        simp [hn,hx,h4,h5,hubody,huels]
theorem aNf (N:Nat) (ih:sU N)
  (us:List UInt8) (uo ut uv:Int) (un:List UInt8) (uk:List Ex) (uB uL:List St) (uj ui uf:Option Addr) (uh uw ug deep:Nat) (ubx ulx:List Value) (w:World)
  (hN:swt (St.mk 4 us (Ex.mk uo ut uv un uk) uB uL)≤N) (hbd:swt (St.mk 4 us (Ex.mk uo ut uv un uk) uB uL)≤1000000000000) (hdeep:deep≤1000000000000+32 - swt (St.mk 4 us (Ex.mk uo ut uv un uk) uB uL)) (hB:stB (St.mk 4 us (Ex.mk uo ut uv un uk) uB uL)≤1000000000000) (hR:stR (St.mk 4 us (Ex.mk uo ut uv un uk) uB uL)) (ht:Tab w) (uhe:ExAt (·<w.heap.size) w (Ex.mk uo ut uv un uk) (xL uo ut uv un uf uk.length ug))
  (uhbs:SlAt (·<w.heap.size) w uj uB.length 9 ubx) (uhbt:StsAt (·<w.heap.size) w uB ubx) (uhls:SlAt (·<w.heap.size) w ui uL.length 9 ulx) (uhlt:StsAt (·<w.heap.size) w uL ulx):
  CB 81 #[yV 4 us uo ut uv un uf uk.length ug uj uB.length uh ui uL.length uw,nI (deep:Int)] w (.bool (okS deep (St.mk 4 us (Ex.mk uo ut uv un uk) uB uL))):=by
 simp only [swt] at hN hbd hdeep
 simp only [stB] at hB
 simp only [stR] at hR
 obtain ⟨hRk,hRe,hRubody,hRuels⟩:=hR
 have hnm:us.length≤maxLen:=by unfold maxLen;omega
 refine eN [yV 4 us uo ut uv un uf uk.length ug uj uB.length uh ui uL.length uw,nI (deep:Int)] Tryz.func81 (fun γ0 hγ0=>?_)
 refine rk ?_
 cases hn:b7 us with
 | true=>
   refine gP [nT us] (.bool true) (fun W hk=>by rw [← hn];exact dW us W hnm) (rs [] 60 6 ?_)
   refine gR (.bool false) (fun W hk=>⟨?_,hk.below⟩)
   rw [cO _ _ _ _ _ _ (by decide)]
   simp [sA hn]
 | false=>
   refine gP [nT us] (.bool false) (fun W hk=>by rw [← hn];exact dW us W hnm) (rk ?_)
   cases hm:bEqL us [] with
   | false=>
     refine gK true (b:=!(bEqL us [])) (by rw [hm];rfl) (rs [] 60 6 ?_)
     refine gR (.bool false) (fun W hk=>⟨?_,hk.below⟩)
     rw [cO _ _ _ _ _ _ (by decide)]
     simp [hm]
   | true=>
     refine gK false (b:=!(bEqL us [])) (by rw [hm];rfl) (rs [] 60 3 ?_)
     refine gE [xV uo ut uv un uf uk.length ug,nI 32] (fun v=>∃ h,v = .tuple #[nI h,.bool (okE 32 (Ex.mk uo ut uv un uk))]) (fun W hk=>(rR _ (Ex.mk uo ut uv un uk) (xL uo ut uv un uf uk.length ug) 32 W (aH _) (by omega) (by decide) (by omega) hRe (ht.below (Keep.below hk)) (uhe.keep hk (kU hk))).mono fun e w' ⟨h,h1,h2,h3⟩=>⟨_,h1,⟨h,rfl⟩,h3⟩) ?_
     rintro v w2 ⟨h,rfl⟩ hk2
     cases hx:okE 32 (Ex.mk uo ut uv un uk) with
     | false=>
       refine rs [] 60 6 ?_
       refine gR (.bool false) (fun W hk=>⟨?_,hk.below⟩)
       rw [cO _ _ _ _ _ _ (by decide)]
       simp [hx]
     | true=>
       refine rs [87] 60 2 ?_
       by_cases h4:uL.length=0
       rotate_left
       ·
        refine zx 84 0 (uL.length:Int) (by omega) ?_
        refine zx 85 0 (uL.length:Int) (by omega) ?_
        refine zx 86 0 (uL.length:Int) (by omega) (rs [] 60 6 ?_)
        refine gR (.bool false) (fun W hk=>⟨?_,hk.below⟩)
        rw [cO _ _ _ _ _ _ (by decide)]
        simp [h4]
       refine zy 84 0 (uL.length:Int) (by omega) ?_
       refine zy 85 0 (uL.length:Int) (by omega) ?_
       refine zy 86 0 (uL.length:Int) (by omega) (rk ?_)
       by_cases h5:uB.length=0
       rotate_left
       ·
        refine kx 0 (uB.length:Int) (by omega) (rs [] 60 6 ?_)
        refine gR (.bool false) (fun W hk=>⟨?_,hk.below⟩)
        rw [cO _ _ _ _ _ _ (by decide)]
        simp [h5]
       refine ky 0 (uB.length:Int) (by omega) (rk ?_)
       refine gS 105 (x:=nI (cA .i64 ((deep:Int)+1))) (nI ((deep+1:Nat):Int)) (by rw [cR (by omega) (by omega)];congr 1) ?_
       cases hubody:okB (deep+1) uB with
       | false=>
         refine gX [.slice uj uB.length uh,nI ((deep+1:Nat):Int)] (.bool false) (fun W hk=>by rw [← hubody];exact ih uB _ _ _ _ (deep+1) W rfl (by omega) (by omega) (by omega) (by omega) hRubody (ht.below (Keep.below hk)) ((uhbs.keep hk).mono (kU hk)) (StsAt_ls.1 (uhbt.keep hk (kU hk)))) (rs [] 60 6 ?_)
         refine gR (.bool false) (fun W hk=>⟨?_,hk.below⟩)
         rw [cO _ _ _ _ _ _ (by decide)]
         simp [hubody]
       | true=>
         refine gX [.slice uj uB.length uh,nI ((deep+1:Nat):Int)] (.bool true) (fun W hk=>by rw [← hubody];exact ih uB _ _ _ _ (deep+1) W rfl (by omega) (by omega) (by omega) (by omega) hRubody (ht.below (Keep.below hk)) ((uhbs.keep hk).mono (kU hk)) (StsAt_ls.1 (uhbt.keep hk (kU hk)))) (rs [] 60 2 ?_)
         refine gS 111 (x:=nI (cA .i64 ((deep:Int)+1))) (nI ((deep+1:Nat):Int)) (by rw [cR (by omega) (by omega)];congr 1) ?_
         obtain ⟨bl,huels⟩:∃ b,b=okB (deep+1) uL:=⟨_,rfl⟩
         refine gX [.slice ui uL.length uw,nI ((deep+1:Nat):Int)] (.bool bl) (fun W hk=>by rw [huels];exact ih uL _ _ _ _ (deep+1) W rfl (by omega) (by omega) (by omega) (by omega) hRuels (ht.below (Keep.below hk)) ((uhls.keep hk).mono (kU hk)) (StsAt_ls.1 (uhlt.keep hk (kU hk)))) (rs [] 60 2 ?_)
         refine gR (.bool bl) (fun W hk=>⟨?_,hk.below⟩)
         rw [cO _ _ _ _ _ _ (by decide)]
         simp [hm,hx,h4,h5,hubody,huels]
theorem aN9 (N:Nat) (ih:sU N)
  (us:List UInt8) (uo ut uv:Int) (un:List UInt8) (uk:List Ex) (uB uL:List St) (uj ui uf:Option Addr) (uh uw ug deep:Nat) (ubx ulx:List Value) (w:World)
  (hN:swt (St.mk 5 us (Ex.mk uo ut uv un uk) uB uL)≤N) (hbd:swt (St.mk 5 us (Ex.mk uo ut uv un uk) uB uL)≤1000000000000) (hdeep:deep≤1000000000000+32 - swt (St.mk 5 us (Ex.mk uo ut uv un uk) uB uL)) (hB:stB (St.mk 5 us (Ex.mk uo ut uv un uk) uB uL)≤1000000000000) (hR:stR (St.mk 5 us (Ex.mk uo ut uv un uk) uB uL)) (ht:Tab w) (uhe:ExAt (·<w.heap.size) w (Ex.mk uo ut uv un uk) (xL uo ut uv un uf uk.length ug))
  (uhbs:SlAt (·<w.heap.size) w uj uB.length 9 ubx) (uhbt:StsAt (·<w.heap.size) w uB ubx) (uhls:SlAt (·<w.heap.size) w ui uL.length 9 ulx) (uhlt:StsAt (·<w.heap.size) w uL ulx):
  CB 81 #[yV 5 us uo ut uv un uf uk.length ug uj uB.length uh ui uL.length uw,nI (deep:Int)] w (.bool (okS deep (St.mk 5 us (Ex.mk uo ut uv un uk) uB uL))):=by
 simp only [swt] at hN hbd hdeep
 simp only [stB] at hB
 simp only [stR] at hR
 obtain ⟨hRk,hRe,hRubody,hRuels⟩:=hR
 have hnm:us.length≤maxLen:=by unfold maxLen;omega
 refine eN [yV 5 us uo ut uv un uf uk.length ug uj uB.length uh ui uL.length uw,nI (deep:Int)] Tryz.func81 (fun γ0 hγ0=>?_)
 refine rk ?_
 cases hn:b7 us with
 | true=>
   refine gP [nT us] (.bool true) (fun W hk=>by rw [← hn];exact dW us W hnm) (rs [] 60 6 ?_)
   refine gR (.bool false) (fun W hk=>⟨?_,hk.below⟩)
   rw [cO _ _ _ _ _ _ (by decide)]
   simp [sA hn]
 | false=>
   refine gP [nT us] (.bool false) (fun W hk=>by rw [← hn];exact dW us W hnm) (rk ?_)
   cases hm:bEqL us [] with
   | false=>
     refine gK true (b:=!(bEqL us [])) (by rw [hm];rfl) (rs [] 60 6 ?_)
     refine gR (.bool false) (fun W hk=>⟨?_,hk.below⟩)
     rw [cO _ _ _ _ _ _ (by decide)]
     simp [hm]
   | true=>
     refine gK false (b:=!(bEqL us [])) (by rw [hm];rfl) (rs [] 60 3 ?_)
     refine gE [xV uo ut uv un uf uk.length ug,nI 32] (fun v=>∃ h,v = .tuple #[nI h,.bool (okE 32 (Ex.mk uo ut uv un uk))]) (fun W hk=>(rR _ (Ex.mk uo ut uv un uk) (xL uo ut uv un uf uk.length ug) 32 W (aH _) (by omega) (by decide) (by omega) hRe (ht.below (Keep.below hk)) (uhe.keep hk (kU hk))).mono fun e w' ⟨h,h1,h2,h3⟩=>⟨_,h1,⟨h,rfl⟩,h3⟩) ?_
     rintro v w2 ⟨h,rfl⟩ hk2
     cases hx:okE 32 (Ex.mk uo ut uv un uk) with
     | false=>
       refine rs [] 60 6 ?_
       refine gR (.bool false) (fun W hk=>⟨?_,hk.below⟩)
       rw [cO _ _ _ _ _ _ (by decide)]
       simp [hx]
     | true=>
       refine rs [] 60 3 ?_
       refine gS 105 (x:=nI (cA .i64 ((deep:Int)+1))) (nI ((deep+1:Nat):Int)) (by rw [cR (by omega) (by omega)];congr 1) ?_
       cases hubody:okB (deep+1) uB with
       | false=>
         refine gX [.slice uj uB.length uh,nI ((deep+1:Nat):Int)] (.bool false) (fun W hk=>by rw [← hubody];exact ih uB _ _ _ _ (deep+1) W rfl (by omega) (by omega) (by omega) (by omega) hRubody (ht.below (Keep.below hk)) ((uhbs.keep hk).mono (kU hk)) (StsAt_ls.1 (uhbt.keep hk (kU hk)))) (rs [] 60 6 ?_)
         refine gR (.bool false) (fun W hk=>⟨?_,hk.below⟩)
         rw [cO _ _ _ _ _ _ (by decide)]
         simp [hubody]
       | true=>
         refine gX [.slice uj uB.length uh,nI ((deep+1:Nat):Int)] (.bool true) (fun W hk=>by rw [← hubody];exact ih uB _ _ _ _ (deep+1) W rfl (by omega) (by omega) (by omega) (by omega) hRubody (ht.below (Keep.below hk)) ((uhbs.keep hk).mono (kU hk)) (StsAt_ls.1 (uhbt.keep hk (kU hk)))) (rs [] 60 2 ?_)
         refine gS 111 (x:=nI (cA .i64 ((deep:Int)+1))) (nI ((deep+1:Nat):Int)) (by rw [cR (by omega) (by omega)];congr 1) ?_
         obtain ⟨bl,huels⟩:∃ b,b=okB (deep+1) uL:=⟨_,rfl⟩
         refine gX [.slice ui uL.length uw,nI ((deep+1:Nat):Int)] (.bool bl) (fun W hk=>by rw [huels];exact ih uL _ _ _ _ (deep+1) W rfl (by omega) (by omega) (by omega) (by omega) hRuels (ht.below (Keep.below hk)) ((uhls.keep hk).mono (kU hk)) (StsAt_ls.1 (uhlt.keep hk (kU hk)))) (rs [] 60 2 ?_)
         refine gR (.bool bl) (fun W hk=>⟨?_,hk.below⟩)
         rw [cO _ _ _ _ _ _ (by decide)]
         simp [hm,hx,hubody,huels]
theorem aNo (N:Nat) (ih:sU N)
  (us:List UInt8) (uo ut uv:Int) (un:List UInt8) (uk:List Ex) (uB uL:List St) (uj ui uf:Option Addr) (uh uw ug deep:Nat) (ubx ulx:List Value) (w:World)
  (hN:swt (St.mk 6 us (Ex.mk uo ut uv un uk) uB uL)≤N) (hbd:swt (St.mk 6 us (Ex.mk uo ut uv un uk) uB uL)≤1000000000000) (hdeep:deep≤1000000000000+32 - swt (St.mk 6 us (Ex.mk uo ut uv un uk) uB uL)) (hB:stB (St.mk 6 us (Ex.mk uo ut uv un uk) uB uL)≤1000000000000) (hR:stR (St.mk 6 us (Ex.mk uo ut uv un uk) uB uL)) (ht:Tab w) (uhe:ExAt (·<w.heap.size) w (Ex.mk uo ut uv un uk) (xL uo ut uv un uf uk.length ug))
  (uhbs:SlAt (·<w.heap.size) w uj uB.length 9 ubx) (uhbt:StsAt (·<w.heap.size) w uB ubx) (uhls:SlAt (·<w.heap.size) w ui uL.length 9 ulx) (uhlt:StsAt (·<w.heap.size) w uL ulx):
  CB 81 #[yV 6 us uo ut uv un uf uk.length ug uj uB.length uh ui uL.length uw,nI (deep:Int)] w (.bool (okS deep (St.mk 6 us (Ex.mk uo ut uv un uk) uB uL))):=by
 simp only [swt] at hN hbd hdeep
 simp only [stB] at hB
 simp only [stR] at hR
 obtain ⟨hRk,hRe,hRubody,hRuels⟩:=hR
 have hnm:us.length≤maxLen:=by unfold maxLen;omega
 refine eN [yV 6 us uo ut uv un uf uk.length ug uj uB.length uh ui uL.length uw,nI (deep:Int)] Tryz.func81 (fun γ0 hγ0=>?_)
 refine rk ?_
 cases hn:b7 us with
 | true=>
   refine gP [nT us] (.bool true) (fun W hk=>by rw [← hn];exact dW us W hnm) (rs [] 60 6 ?_)
   refine gR (.bool false) (fun W hk=>⟨?_,hk.below⟩)
   rw [cO _ _ _ _ _ _ (by decide)]
   simp [sA hn]
 | false=>
   refine gP [nT us] (.bool false) (fun W hk=>by rw [← hn];exact dW us W hnm) (rk ?_)
   cases hm:bEqL us [] with
   | false=>
     refine gK true (b:=!(bEqL us [])) (by rw [hm];rfl) (rs [] 60 6 ?_)
     refine gR (.bool false) (fun W hk=>⟨?_,hk.below⟩)
     rw [cO _ _ _ _ _ _ (by decide)]
     simp [hm]
   | true=>
     refine gK false (b:=!(bEqL us [])) (by rw [hm];rfl) (rs [] 60 3 ?_)
     refine gE [xV uo ut uv un uf uk.length ug,nI 32] (fun v=>∃ h,v = .tuple #[nI h,.bool (okE 32 (Ex.mk uo ut uv un uk))]) (fun W hk=>(rR _ (Ex.mk uo ut uv un uk) (xL uo ut uv un uf uk.length ug) 32 W (aH _) (by omega) (by decide) (by omega) hRe (ht.below (Keep.below hk)) (uhe.keep hk (kU hk))).mono fun e w' ⟨h,h1,h2,h3⟩=>⟨_,h1,⟨h,rfl⟩,h3⟩) ?_
     rintro v w2 ⟨h,rfl⟩ hk2
     cases hx:okE 32 (Ex.mk uo ut uv un uk) with
     | false=>
       refine rs [] 60 6 ?_
       refine gR (.bool false) (fun W hk=>⟨?_,hk.below⟩)
       rw [cO _ _ _ _ _ _ (by decide)]
       simp [hx]
     | true=>
       refine rs [87] 60 2 ?_
       by_cases h4:uL.length=0
       rotate_left
       ·
        refine zx 84 0 (uL.length:Int) (by omega) ?_
        refine zx 85 0 (uL.length:Int) (by omega) ?_
        refine zx 86 0 (uL.length:Int) (by omega) (rs [] 60 6 ?_)
        refine gR (.bool false) (fun W hk=>⟨?_,hk.below⟩)
        rw [cO _ _ _ _ _ _ (by decide)]
        simp [h4]
       refine zy 84 0 (uL.length:Int) (by omega) ?_
       refine zy 85 0 (uL.length:Int) (by omega) ?_
       refine zy 86 0 (uL.length:Int) (by omega) (rs [] 60 2 ?_)
       refine gS 105 (x:=nI (cA .i64 ((deep:Int)+1))) (nI ((deep+1:Nat):Int)) (by rw [cR (by omega) (by omega)];congr 1) ?_
       cases hubody:okB (deep+1) uB with
       | false=>
         refine gX [.slice uj uB.length uh,nI ((deep+1:Nat):Int)] (.bool false) (fun W hk=>by rw [← hubody];exact ih uB _ _ _ _ (deep+1) W rfl (by omega) (by omega) (by omega) (by omega) hRubody (ht.below (Keep.below hk)) ((uhbs.keep hk).mono (kU hk)) (StsAt_ls.1 (uhbt.keep hk (kU hk)))) (rs [] 60 6 ?_)
         refine gR (.bool false) (fun W hk=>⟨?_,hk.below⟩)
         rw [cO _ _ _ _ _ _ (by decide)]
         simp [hubody]
       | true=>
         refine gX [.slice uj uB.length uh,nI ((deep+1:Nat):Int)] (.bool true) (fun W hk=>by rw [← hubody];exact ih uB _ _ _ _ (deep+1) W rfl (by omega) (by omega) (by omega) (by omega) hRubody (ht.below (Keep.below hk)) ((uhbs.keep hk).mono (kU hk)) (StsAt_ls.1 (uhbt.keep hk (kU hk)))) (rs [] 60 2 ?_)
         refine gS 111 (x:=nI (cA .i64 ((deep:Int)+1))) (nI ((deep+1:Nat):Int)) (by rw [cR (by omega) (by omega)];congr 1) ?_
         obtain ⟨bl,huels⟩:∃ b,b=okB (deep+1) uL:=⟨_,rfl⟩
         refine gX [.slice ui uL.length uw,nI ((deep+1:Nat):Int)] (.bool bl) (fun W hk=>by rw [huels];exact ih uL _ _ _ _ (deep+1) W rfl (by omega) (by omega) (by omega) (by omega) hRuels (ht.below (Keep.below hk)) ((uhls.keep hk).mono (kU hk)) (StsAt_ls.1 (uhlt.keep hk (kU hk)))) (rs [] 60 2 ?_)
         refine gR (.bool bl) (fun W hk=>⟨?_,hk.below⟩)
         rw [cO _ _ _ _ _ _ (by decide)]
         simp [hm,hx,h4,hubody,huels]
theorem aNz (N:Nat) (ih:sU N)
  (us:List UInt8) (uo ut uv:Int) (un:List UInt8) (uk:List Ex) (uB uL:List St) (uj ui uf:Option Addr) (uh uw ug deep:Nat) (ubx ulx:List Value) (w:World)
  (hN:swt (St.mk 7 us (Ex.mk uo ut uv un uk) uB uL)≤N) (hbd:swt (St.mk 7 us (Ex.mk uo ut uv un uk) uB uL)≤1000000000000) (hdeep:deep≤1000000000000+32 - swt (St.mk 7 us (Ex.mk uo ut uv un uk) uB uL)) (hB:stB (St.mk 7 us (Ex.mk uo ut uv un uk) uB uL)≤1000000000000) (hR:stR (St.mk 7 us (Ex.mk uo ut uv un uk) uB uL)) (ht:Tab w) (uhe:ExAt (·<w.heap.size) w (Ex.mk uo ut uv un uk) (xL uo ut uv un uf uk.length ug))
  (uhbs:SlAt (·<w.heap.size) w uj uB.length 9 ubx) (uhbt:StsAt (·<w.heap.size) w uB ubx) (uhls:SlAt (·<w.heap.size) w ui uL.length 9 ulx) (uhlt:StsAt (·<w.heap.size) w uL ulx):
  CB 81 #[yV 7 us uo ut uv un uf uk.length ug uj uB.length uh ui uL.length uw,nI (deep:Int)] w (.bool (okS deep (St.mk 7 us (Ex.mk uo ut uv un uk) uB uL))):=by
 simp only [swt] at hN hbd hdeep
 simp only [stB] at hB
 simp only [stR] at hR
 obtain ⟨hRk,hRe,hRubody,hRuels⟩:=hR
 have hnm:us.length≤maxLen:=by unfold maxLen;omega
 refine eN [yV 7 us uo ut uv un uf uk.length ug uj uB.length uh ui uL.length uw,nI (deep:Int)] Tryz.func81 (fun γ0 hγ0=>?_)
 refine rk ?_
 cases hn:b7 us with
 | true=>
   refine gP [nT us] (.bool true) (fun W hk=>by rw [← hn];exact dW us W hnm) (rs [] 60 6 ?_)
   refine gR (.bool false) (fun W hk=>⟨?_,hk.below⟩)
   rw [cO _ _ _ _ _ _ (by decide)]
   simp [sA hn]
 | false=>
   refine gP [nT us] (.bool false) (fun W hk=>by rw [← hn];exact dW us W hnm) (rk ?_)
   cases hm:bEqL us [] with
   | false=>
     refine gK true (b:=!(bEqL us [])) (by rw [hm];rfl) (rs [] 60 6 ?_)
     refine gR (.bool false) (fun W hk=>⟨?_,hk.below⟩)
     rw [cO _ _ _ _ _ _ (by decide)]
     simp [hm]
   | true=>
     refine gK false (b:=!(bEqL us [])) (by rw [hm];rfl) (rs [] 60 3 ?_)
     cases hx:iS (Ex.mk uo ut uv un uk) with
     | false=>
       refine gX [xV uo ut uv un uf uk.length ug] (.bool false) (fun W hk=>by rw [← hx];exact sH uo ut uv un uk uf ug W) (rs [] 60 6 ?_)
       refine gR (.bool false) (fun W hk=>⟨?_,hk.below⟩)
       rw [cO _ _ _ _ _ _ (by decide)]
       simp [hx]
     | true=>
       refine gX [xV uo ut uv un uf uk.length ug] (.bool true) (fun W hk=>by rw [← hx];exact sH uo ut uv un uk uf ug W) (rs [87] 60 2 ?_)
       by_cases h4:uL.length=0
       rotate_left
       ·
        refine zx 84 0 (uL.length:Int) (by omega) ?_
        refine zx 85 0 (uL.length:Int) (by omega) ?_
        refine zx 86 0 (uL.length:Int) (by omega) (rs [] 60 6 ?_)
        refine gR (.bool false) (fun W hk=>⟨?_,hk.below⟩)
        rw [cO _ _ _ _ _ _ (by decide)]
        simp [h4]
       refine zy 84 0 (uL.length:Int) (by omega) ?_
       refine zy 85 0 (uL.length:Int) (by omega) ?_
       refine zy 86 0 (uL.length:Int) (by omega) (rk ?_)
       by_cases h5:uB.length=0
       rotate_left
       ·
        refine kx 0 (uB.length:Int) (by omega) (rs [] 60 6 ?_)
        refine gR (.bool false) (fun W hk=>⟨?_,hk.below⟩)
        rw [cO _ _ _ _ _ _ (by decide)]
        simp [h5]
       refine ky 0 (uB.length:Int) (by omega) (rk ?_)
       refine gS 105 (x:=nI (cA .i64 ((deep:Int)+1))) (nI ((deep+1:Nat):Int)) (by rw [cR (by omega) (by omega)];congr 1) ?_
       cases hubody:okB (deep+1) uB with
       | false=>
         refine gX [.slice uj uB.length uh,nI ((deep+1:Nat):Int)] (.bool false) (fun W hk=>by rw [← hubody];exact ih uB _ _ _ _ (deep+1) W rfl (by omega) (by omega) (by omega) (by omega) hRubody (ht.below (Keep.below hk)) ((uhbs.keep hk).mono (kU hk)) (StsAt_ls.1 (uhbt.keep hk (kU hk)))) (rs [] 60 6 ?_)
         refine gR (.bool false) (fun W hk=>⟨?_,hk.below⟩)
         rw [cO _ _ _ _ _ _ (by decide)]
         simp [hubody]
       | true=>
         refine gX [.slice uj uB.length uh,nI ((deep+1:Nat):Int)] (.bool true) (fun W hk=>by rw [← hubody];exact ih uB _ _ _ _ (deep+1) W rfl (by omega) (by omega) (by omega) (by omega) hRubody (ht.below (Keep.below hk)) ((uhbs.keep hk).mono (kU hk)) (StsAt_ls.1 (uhbt.keep hk (kU hk)))) (rs [] 60 2 ?_)
         refine gS 111 (x:=nI (cA .i64 ((deep:Int)+1))) (nI ((deep+1:Nat):Int)) (by rw [cR (by omega) (by omega)];congr 1) ?_
         obtain ⟨bl,huels⟩:∃ b,b=okB (deep+1) uL:=⟨_,rfl⟩
         refine gX [.slice ui uL.length uw,nI ((deep+1:Nat):Int)] (.bool bl) (fun W hk=>by rw [huels];exact ih uL _ _ _ _ (deep+1) W rfl (by omega) (by omega) (by omega) (by omega) hRuels (ht.below (Keep.below hk)) ((uhls.keep hk).mono (kU hk)) (StsAt_ls.1 (uhlt.keep hk (kU hk)))) (rs [] 60 2 ?_)
         refine gR (.bool bl) (fun W hk=>⟨?_,hk.below⟩)
         rw [cO _ _ _ _ _ _ (by decide)]
         simp [hm,hx,h4,h5,hubody,huels]
theorem aFc (N:Nat) (ih:sU N)
  (uK:Int) (us:List UInt8) (uo ut uv:Int) (un:List UInt8) (uk:List Ex) (uB uL:List St) (uj ui uf:Option Addr) (uh uw ug deep:Nat) (ubx ulx:List Value) (w:World)
  (hN:swt (St.mk uK us (Ex.mk uo ut uv un uk) uB uL)≤N) (hbd:swt (St.mk uK us (Ex.mk uo ut uv un uk) uB uL)≤1000000000000) (hdeep:deep≤1000000000000+32 - swt (St.mk uK us (Ex.mk uo ut uv un uk) uB uL)) (hB:stB (St.mk uK us (Ex.mk uo ut uv un uk) uB uL)≤1000000000000) (hR:stR (St.mk uK us (Ex.mk uo ut uv un uk) uB uL)) (ht:Tab w) (uhe:ExAt (·<w.heap.size) w (Ex.mk uo ut uv un uk) (xL uo ut uv un uf uk.length ug))
  (uhbs:SlAt (·<w.heap.size) w uj uB.length 9 ubx) (uhbt:StsAt (·<w.heap.size) w uB ubx) (uhls:SlAt (·<w.heap.size) w ui uL.length 9 ulx) (uhlt:StsAt (·<w.heap.size) w uL ulx) (h1:¬ uK=1) (h2:¬ uK=2) (h3:¬ uK=3) (h4:¬ uK=4) (h5:¬ uK=5) (h6:¬ uK=6) (h7:¬ uK=7):
  CB 81 #[yV uK us uo ut uv un uf uk.length ug uj uB.length uh ui uL.length uw,nI (deep:Int)] w (.bool (okS deep (St.mk uK us (Ex.mk uo ut uv un uk) uB uL))):=by
 simp only [swt] at hN hbd hdeep
 simp only [stB] at hB
 simp only [stR] at hR
 obtain ⟨hRk,hRe,hRubody,hRuels⟩:=hR
 have hnm:us.length≤maxLen:=by unfold maxLen;omega
 refine eN [yV uK us uo ut uv un uf uk.length ug uj uB.length uh ui uL.length uw,nI (deep:Int)] Tryz.func81 (fun γ0 hγ0=>?_)
 refine rs [13] 60 0 ?_
 refine gF 11 uK 1 h1 ?_
 refine gF 12 uK 1 h1 (rs [18] 60 0 ?_)
 refine gF 15 uK 2 h2 ?_
 refine gF 16 uK 2 h2 ?_
 refine gF 17 uK 2 h2 (rs [26] 60 0 ?_)
 refine gF 20 uK 3 h3 ?_
 refine gF 21 uK 3 h3 ?_
 refine gF 5 uK 3 h3 ?_
 refine gF 24 uK 1 h1 ?_
 refine gF 25 uK 1 h1 (rs [31] 60 0 ?_)
 refine gF 28 uK 4 h4 ?_
 refine gF 29 uK 4 h4 ?_
 refine gF 30 uK 4 h4 (rs [36] 60 0 ?_)
 refine gF 33 uK 5 h5 ?_
 refine gF 34 uK 5 h5 ?_
 refine gF 35 uK 5 h5 (rs [44] 60 0 ?_)
 refine gF 38 uK 6 h6 ?_
 refine gF 39 uK 6 h6 ?_
 refine gF 6 uK 6 h6 ?_
 by_cases hl:uK<1
 ·
  refine zx 42 uK 1 hl ?_
  refine zx 43 uK 1 hl (rs [] 60 6 ?_)
  refine gR (.bool false) (fun W hk=>⟨?_,hk.below⟩)
  rw [aEv _ _ _ _ _ _ (by omega)]
 refine zy 42 uK 1 hl ?_
 refine zy 43 uK 1 hl (rs [49] 60 0 ?_)
 refine zx 46 7 uK (by omega) ?_
 refine zx 47 7 uK (by omega) ?_
 refine zx 48 7 uK (by omega) (rs [] 60 6 ?_)
 refine gR (.bool false) (fun W hk=>⟨?_,hk.below⟩)
 rw [aEv _ _ _ _ _ _ (by omega)]
end
section
set_option maxRecDepth 100000
theorem aN4 (N:Nat) (ih:sU N) (x:St) (cs:List Value) (deep:Nat) (w:World) (hN:swt x≤N) (hbd:swt x≤1000000000000) (hdeep:deep≤1000000000000+32 - swt x) (hB:stB x≤1000000000000) (hR:stR x) (ht:Tab w) (hat:StAt (·<w.heap.size) w x cs):
  CB 81 #[.agg cs.toArray,.int .i64 (deep:Int)] w (.bool (okS deep x)):=by
 obtain ⟨uK,us,⟨uo,ut,uv,un,uk⟩,uB,uL⟩:=x
 simp only [StAt] at hat
 obtain ⟨ucs,uj,uh,ubx,ui,uw,ulx,rfl,uhe,uhbs,uhbt,uhls,uhlt⟩:=hat
 have uhe0:=uhe
 simp only [ExAt] at uhe0
 obtain ⟨uf,ug,uex,rfl,_⟩:=uhe0
 by_cases h1:uK=1
 · subst h1
   exact aM8 N ih  us uo ut uv un uk uB uL uj ui uf uh uw ug deep ubx ulx w hN hbd hdeep hB hR ht uhe uhbs uhbt uhls uhlt
 by_cases h2:uK=2
 · subst h2
   exact aBn N ih 2 us uo ut uv un uk uB uL uj ui uf uh uw ug deep ubx ulx w hN hbd hdeep hB hR ht uhe uhbs uhbt uhls uhlt (.inl rfl)
 by_cases h3:uK=3
 · subst h3
   exact aBn N ih 3 us uo ut uv un uk uB uL uj ui uf uh uw ug deep ubx ulx w hN hbd hdeep hB hR ht uhe uhbs uhbt uhls uhlt (.inr rfl)
 by_cases h4:uK=4
 · subst h4
   exact aNf N ih  us uo ut uv un uk uB uL uj ui uf uh uw ug deep ubx ulx w hN hbd hdeep hB hR ht uhe uhbs uhbt uhls uhlt
 by_cases h5:uK=5
 · subst h5
   exact aN9 N ih  us uo ut uv un uk uB uL uj ui uf uh uw ug deep ubx ulx w hN hbd hdeep hB hR ht uhe uhbs uhbt uhls uhlt
 by_cases h6:uK=6
 · subst h6
   exact aNo N ih  us uo ut uv un uk uB uL uj ui uf uh uw ug deep ubx ulx w hN hbd hdeep hB hR ht uhe uhbs uhbt uhls uhlt
 by_cases h7:uK=7
 · subst h7
   exact aNz N ih  us uo ut uv un uk uB uL uj ui uf uh uw ug deep ubx ulx w hN hbd hdeep hB hR ht uhe uhbs uhbt uhls uhlt
 exact aFc N ih uK us uo ut uv un uk uB uL uj ui uf uh uw ug deep ubx ulx w hN hbd hdeep hB hR ht uhe uhbs uhbt uhls uhlt h1 h2 h3 h4 h5 h6 h7
open Go.Sy
theorem zP (N:Nat) (ih:sU N) (x:St) (cs:List Value) (q deep:Nat) (w:World) (hN:swt x≤N) (hbd:swt x≤1000000000000) (hdeep:deep≤1000000000000+32 - swt x) (hB:stB x≤1000000000000) (hR:stR x) (ht:Tab w) (hq:SlAt (·<w.heap.size) w (some ⟨q,0,none⟩) 1 1 [nI (deep:Int)]) (hat:StAt (·<w.heap.size) w x cs):
  CB 80 #[.agg cs.toArray,nP q] w (.bool (!(okS deep x))):=by
 have hat0:=hat
 obtain ⟨uK,us,⟨uo,ut,uv,un,uk⟩,uB,uL⟩:=x
 simp only [StAt] at hat0
 obtain ⟨ucs,uj,uh,ubx,ui,uw,ulx,rfl,uhe,_⟩:=hat0
 simp only [ExAt] at uhe
 obtain ⟨uf,ug,uex,rfl,_⟩:=uhe
 refine eN [yV uK us uo ut uv un uf uk.length ug uj uB.length uh ui uL.length uw,nP q] Tryz.func80 (fun γ0 hγ0=>?_)
 refine rk ?_
 refine gV (nI (deep:Int)) (S:=Instr.loadAt 3 (.pointer (some ⟨q,0+0,none⟩))) (fun W hk=>aKx hq (by kernel_rfl) 0 rfl hk) (rk ?_)
 refine gX [yV uK us uo ut uv un uf uk.length ug uj uB.length uh ui uL.length uw,nI (deep:Int)] (.bool (okS deep (St.mk uK us (Ex.mk uo ut uv un uk) uB uL))) (fun W hk=>aN4 N ih (St.mk uK us (Ex.mk uo ut uv un uk) uB uL) (yL uK us uo ut uv un uf uk.length ug uj uB.length uh ui uL.length uw) deep W hN hbd hdeep hB hR (ht.below (Keep.below hk)) (hat.keep hk (kU hk))) (rk ?_)
 exact gR (.bool (!(okS deep (St.mk uK us (Ex.mk uo ut uv un uk) uB uL)))) (fun W hk=>⟨rfl,hk.below⟩)
theorem aBh {x:St}:∀ {l:List St},x∈l→swt x≤cS l
 | y::l,h=>by
   simp only [cS]
   rcases bJ h with rfl | h
   · omega
   · have:=aBh h;omega
theorem u6 {x:St}:∀ {l:List St},x∈l→stB x≤j4 l
 | y::l,h=>by
   simp only [j4]
   rcases bJ h with rfl | h
   · omega
   · have:=u6 h;omega
theorem aVw:∀ N,sU N:=by
 intro N
 induction N with
 | zero=>intro L a n cap xs deep w _ h;omega
 | succ N ih=>
   intro L a n cap xs deep w hn hN hbd hdeep hB hR ht hsl hks
   have hnl:=jQ L
   refine eN [.slice a n cap,nI (deep:Int)] Tryz.func47 (fun γ0 hγ0=>?_)
   refine rs [9] 60 0 ?_
   by_cases h0:n=0
   ·
    refine zy 7 0 (n:Int) (by omega) ?_
    refine zy 8 0 (n:Int) (by omega) (rs [12] 60 1 ?_)
    refine gG 3 gz 3 [nI (deep:Int)] (fun q w1 B1 hk1 hB01 hBq hnq hB1 hq=>?_)
    have hq1:=aF1 hq hBq (n:=1) rfl
    refine rk ?_
    refine gN [.slice a n cap,.func (.func 80) #[] #[nP q]] (fun v=>v = .bool (L.any fun s=>!(okS deep s))) (fun W hk=>by
     have hkw:Keep (·<w.heap.size) w W:=hk1.trans (hk.mono hB01)
     refine (aEx (fun s=>!(okS deep s)) q L a n cap xs W hn (by omega) ((hsl.keep hkw).mono (kU hkw)) (hks.imp fun x c hc=>hc.keep hkw (kU hkw)) (fun x hx cs W2 hk2 hat2=>?_)).mono fun e w' ⟨h1,h2⟩=>⟨_,h1,rfl,h2⟩
     have hm:=aBh hx
     have hm2:=u6 hx
     exact zP N ih x cs q deep W2 (by omega) (by omega) (by omega) (by omega) (stRs_mem.1 hR x hx) (ht.below ((Keep.trans hkw (hk2.mono (kU hkw))).below)) (((hq1.keep hk).mono fun k h=>aE (hB1 k h) hk.size).keep hk2 |>.mono (kU hk2)) hat2) ?_
    rintro v w2 rfl hk2
    refine rk ?_
    refine gR (.bool (!(L.any fun s=>!(okS deep s)))) (fun W hk=>⟨?_,((hk1.trans (hk.mono hB01))).below⟩)
    have hL:L=[]:=aF (by omega)
    subst hL
    rfl
   refine zx 7 0 (n:Int) (by omega) ?_
   refine zx 8 0 (n:Int) (by omega) (rk ?_)
   by_cases h1:32<deep
   ·
    refine kx 32 (deep:Int) (by omega) (rs [] 60 1 ?_)
    refine gR (.bool false) (fun W hk=>⟨?_,hk.below⟩)
    rw [aQr deep h1,decide_eq_false (by omega)]
   refine ky 32 (deep:Int) (by omega) (rs [12] 60 1 ?_)
   refine gG 3 gz 3 [nI (deep:Int)] (fun q w1 B1 hk1 hB01 hBq hnq hB1 hq=>?_)
   have hq1:=aF1 hq hBq (n:=1) rfl
   refine rk ?_
   refine gN [.slice a n cap,.func (.func 80) #[] #[nP q]] (fun v=>v = .bool (L.any fun s=>!(okS deep s))) (fun W hk=>by
    have hkw:Keep (·<w.heap.size) w W:=hk1.trans (hk.mono hB01)
    refine (aEx (fun s=>!(okS deep s)) q L a n cap xs W hn (by omega) ((hsl.keep hkw).mono (kU hkw)) (hks.imp fun x c hc=>hc.keep hkw (kU hkw)) (fun x hx cs W2 hk2 hat2=>?_)).mono fun e w' ⟨h1,h2⟩=>⟨_,h1,rfl,h2⟩
    have hm:=aBh hx
    have hm2:=u6 hx
    exact zP N ih x cs q deep W2 (by omega) (by omega) (by omega) (by omega) (stRs_mem.1 hR x hx) (ht.below ((Keep.trans hkw (hk2.mono (kU hkw))).below)) (((hq1.keep hk).mono fun k h=>aE (hB1 k h) hk.size).keep hk2 |>.mono (kU hk2)) hat2) ?_
   rintro v w2 rfl hk2
   refine rk ?_
   refine gR (.bool (!(L.any fun s=>!(okS deep s)))) (fun W hk=>⟨?_,((hk1.trans (hk.mono hB01))).below⟩)
   rw [aKj deep (by omega)]
theorem aKy (L:List St) (a:Option Addr) (n cap:Nat) (xs:List Value) (deep:Nat) (w:World) (hn:n=L.length) (hbd:cS L≤1000000000000) (hdeep:deep≤1000) (hB:j4 L≤1000000000000) (hR:j5 L) (ht:Tab w) (hsl:Sy.SlAt (·<w.heap.size) w a n 9 xs) (hks:LsAt (StAt (·<w.heap.size) w) L xs) (hbd2:cS L≤500000000000):
  CB 47 #[.slice a n cap,.int .i64 (deep:Int)] w (.bool (okB deep L)):=
 aVw _ L a n cap xs deep w hn (Nat.lt_succ_self _) hbd (by omega) hB hR ht hsl hks
end
section
set_option maxRecDepth 100000
noncomputable def okV (v:Vr):Bool:=b7 v.name&&mW v.ty v.bits.toNat
theorem aKk (word:List UInt8) (v:Vr) (hR:vrR v):(vrT word v).isSome=okV v:=by
 obtain ⟨_,h1,h2⟩:=hR
 unfold vrT okV
 cases hx:b7 v.name with
 | false=>rfl
 | true=>
   have:=(aEh v.ty v.bits.toNat (by omega)).1
   rw [this,show ((v.bits.toNat:Nat):Int)=v.bits by omega,if_pos rfl,Option.isSome_map,Bool.true_and]
open Go.Sy
theorem aE7 (v:Vr) (w:World) (hB:vrB v≤1000000000000) (hR:vrR v) (ht:Tab w):CB 40 #[.agg #[nT v.name,n8 v.ty,n6 v.bits]] w (.bool (okV v)):=by
 unfold vrB at hB
 have hnm:v.name.length≤maxLen:=by unfold maxLen;omega
 obtain ⟨_,hb1,hb2⟩:=hR
 refine eN [.agg #[nT v.name,n8 v.ty,n6 v.bits]] Tryz.func40 (fun γ0 hγ0=>?_)
 refine rk ?_
 cases hx:b7 v.name with
 | false=>
   refine gP [nT v.name] (.bool false) (fun W hk=>by rw [← hx];exact dW v.name W hnm) (rs [] 60 2 ?_)
   exact gR (.bool false) (fun W hk=>⟨by unfold okV;rw [hx];rfl,hk.below⟩)
 | true=>
   refine gP [nT v.name] (.bool true) (fun W hk=>by rw [← hx];exact dW v.name W hnm) (rs [] 60 2 ?_)
   refine gX [.agg #[n8 v.ty,n6 v.bits]] (.bool (mW v.ty v.bits.toNat)) (fun W hk=>by have:=aL6 v.ty v.bits.toNat (by omega) W (ht.below (Keep.below hk));rw [show ((v.bits.toNat:Nat):Int)=v.bits by omega] at this;exact this) (rs [] 60 2 ?_)
   exact gR (.bool (mW v.ty v.bits.toNat)) (fun W hk=>⟨by unfold okV;rw [hx];rfl,hk.below⟩)
theorem lW (v:Vr) (cs:List Value) (w:World) (hB:vrB v≤1000000000000) (hR:vrR v) (ht:Tab w) (hc:VrAt v cs):CB 39 #[.agg cs.toArray] w (.bool (!(okV v))):=by
 obtain rfl:cs=[nT v.name,n8 v.ty,n6 v.bits]:=hc
 refine eN [.agg #[nT v.name,n8 v.ty,n6 v.bits]] Tryz.func39 (fun γ0 hγ0=>?_)
 refine rk ?_
 refine gX [.agg #[nT v.name,n8 v.ty,n6 v.bits]] (.bool (okV v)) (fun W hk=>aE7 v W hB hR (ht.below (Keep.below hk))) (rk ?_)
 exact gR (.bool (!(okV v))) (fun W hk=>⟨rfl,hk.below⟩)
theorem wG (s:List UInt8) (cs:List Value) (w:World) (hB:txB s≤1000000000000) (hc:TxAt s cs):Calls Tryz.prog 43 cs.toArray w fun e w'=>e = .returned (.bool (!(b7 s)))∧Below w.heap.size w w':=by
 obtain rfl:cs=[nT s]:=hc
 refine eN [nT s] Tryz.func43 (fun γ0 hγ0=>?_)
 refine rk ?_
 refine gP [nT s] (.bool (b7 s)) (fun W hk=>dW s W (by unfold maxLen;unfold txB at hB;omega)) (rk ?_)
 exact gR (.bool (!(b7 s))) (fun W hk=>⟨rfl,hk.below⟩)
noncomputable def okT (x:Th):Bool:=b7 x.name&&(!(x.locals.any fun v=>!(okV v))&&okB 0 x.body)
theorem aEz (x:Th) (cs:List Value) (q:Nat) (w:World) (hB:thB x≤400000000000) (hR:thR x) (ht:Tab w) (hq:SlAt (·<w.heap.size) w (some ⟨q,0,none⟩) 1 1 [.func (.func 39) #[] #[]]) (hc:ThAt (·<w.heap.size) w x cs):
  CB 46 #[.agg cs.toArray,nP q] w (.bool (!(okT x))):=by
 obtain ⟨ua,ucap,uxs,ub,ucap2,uys,rfl,h1,h2,h3,h4⟩:=hc
 unfold thB at hB
 obtain ⟨hRl,hRb⟩:=hR
 have hnm:x.name.length≤maxLen:=by unfold maxLen;omega
 have hl1:=jW (μ:=vrB) (fun v=>by unfold vrB;omega) x.locals
 have hl2:=oM x.body
 refine eN [.agg #[nT x.name,.slice ua x.locals.length ucap,.slice ub x.body.length ucap2],nP q] Tryz.func46 (fun γ0 hγ0=>?_)
 refine rk ?_
 cases hx:b7 x.name with
 | false=>
   refine gP [nT x.name] (.bool false) (fun W hk=>by rw [← hx];exact dW x.name W hnm) (rs [] 60 2 ?_)
   exact gR (.bool true) (fun W hk=>⟨by unfold okT;rw [hx];rfl,hk.below⟩)
 | true=>
   refine gP [nT x.name] (.bool true) (fun W hk=>by rw [← hx];exact dW x.name W hnm) (rs [] 60 2 ?_)
   refine gV (.func (.func 39) #[] #[]) (S:=Instr.loadAt 95 (.pointer (some ⟨q,0+0,none⟩))) (fun W hk=>aKx hq (by kernel_rfl) 0 rfl hk) (rs [] 60 2 ?_)
   cases hy:x.locals.any (fun v=>!(okV v)) with
   | true=>
     refine gN [.slice ua x.locals.length ucap,.func (.func 39) #[] #[]] (fun v=>v = .bool true) (fun W hk=>(rX (fun v=>!(okV v)) x.locals ua x.locals.length ucap uxs W rfl (by omega) ((h1.keep hk).mono (kU hk)) h2 (fun v hv cs W2 hk2 hc=>lW v cs W2 (by have:=jV (μ:=vrB) hv;omega) (hRl v hv) (ht.below ((hk.trans (hk2.mono (kU hk))).below)) hc)).mono fun e w' ⟨h1,h2⟩=>⟨_,h1,(by rw [hy]),h2⟩) ?_
     rintro v w2 rfl hk2
     refine rs [] 60 2 ?_
     exact gR (.bool true) (fun W hk=>⟨by unfold okT;rw [hx,hy];rfl,hk.below⟩)
   | false=>
     refine gN [.slice ua x.locals.length ucap,.func (.func 39) #[] #[]] (fun v=>v = .bool false) (fun W hk=>(rX (fun v=>!(okV v)) x.locals ua x.locals.length ucap uxs W rfl (by omega) ((h1.keep hk).mono (kU hk)) h2 (fun v hv cs W2 hk2 hc=>lW v cs W2 (by have:=jV (μ:=vrB) hv;omega) (hRl v hv) (ht.below ((hk.trans (hk2.mono (kU hk))).below)) hc)).mono fun e w' ⟨h1,h2⟩=>⟨_,h1,(by rw [hy]),h2⟩) ?_
     rintro v w2 rfl hk2
     refine rs [] 60 2 ?_
     refine gX [.slice ub x.body.length ucap2,nI 0] (.bool (okB 0 x.body)) (fun W hk=>by have:=aKy x.body ub x.body.length ucap2 uys 0 W rfl (by omega) (by decide) (by omega) hRb (ht.below (Keep.below hk)) ((h3.keep hk).mono (kU hk)) (StsAt_ls.1 (h4.keep hk (kU hk))) (by omega);exact this) (rs [] 60 2 ?_)
     exact gR (.bool (!(okB 0 x.body))) (fun W hk=>⟨by unfold okT;rw [hx,hy];rfl,hk.below⟩)
noncomputable def okP (p:Pg):Bool:=!(p.shared.any fun v=>!(okV v))&&(!(p.mutexes.any fun s=>!(b7 s))&&!(p.threads.any fun x=>!(okT x)))
theorem xS (p:Pg) (cs:List Value) (w:World) (hB:pgB p≤400000000000) (hR:pgR p) (ht:Tab w) (hp:PgAt (·<w.heap.size) w p cs):
  CB 16 #[.agg cs.toArray] w (.bool (okP p)):=by
 obtain ⟨a,cap,xs,b,cap2,ys,d,cap3,zs,rfl,hxs,hxt,hys,hyt,hzs,hzt⟩:=hp
 unfold pgB at hB
 obtain ⟨hRs,hRt⟩:=hR
 have hl1:=jW (μ:=vrB) (fun v=>by unfold vrB;omega) p.shared
 have hl2:=jW (μ:=txB) (fun v=>by unfold txB;omega) p.mutexes
 have hl3:=jW (μ:=thB) (fun v=>by unfold thB;omega) p.threads
 refine eN [.agg #[.slice a p.shared.length cap,.slice b p.mutexes.length cap2,.slice d p.threads.length cap3]] Tryz.func16 (fun γ0 hγ0=>?_)
 refine rs [4] 60 0 ?_
 refine gG 3 (gz+1) 95 [.func (.func 39) #[] #[]] (fun q w1 B1 hk1 hB01 hBq hnq hB1 hq=>?_)
 have hq1:=aF1 hq hBq (n:=1) rfl
 have KW:∀ W,Keep B1 w1 W→Keep (·<w.heap.size) w W:=fun W hk=>hk1.trans (hk.mono hB01)
 refine rk ?_
 refine gV (.func (.func 39) #[] #[]) (S:=Instr.loadAt 95 (.pointer (some ⟨q,0+0,none⟩))) (fun W hk=>aKx hq1 (by kernel_rfl) 0 rfl hk) (rk ?_)
 cases hv1:p.shared.any (fun v=>!(okV v)) with
 | true=>
   refine gN [.slice a p.shared.length cap,.func (.func 39) #[] #[]] (fun v=>v = .bool true) (fun W hk=>by
    have hk:=KW W hk
    exact (rX (fun v=>!(okV v)) p.shared a p.shared.length cap xs W rfl (by omega) ((hxs.keep hk).mono (kU hk)) hxt (fun v hv cs W2 hk2 hc=>lW v cs W2 (by have:=jV (μ:=vrB) hv;omega) (hRs v hv) (ht.below ((hk.trans (hk2.mono (kU hk))).below)) hc)).mono fun e w' ⟨h1,h2⟩=>⟨_,h1,(by rw [hv1]),h2⟩) ?_
   rintro v w2 rfl hk2
   refine rs [] 60 4 ?_
   exact gR (.bool false) (fun W hk=>⟨by unfold okP;rw [hv1];rfl,(KW W hk).below⟩)
 | false=>
   refine gN [.slice a p.shared.length cap,.func (.func 39) #[] #[]] (fun v=>v = .bool false) (fun W hk=>by
    have hk:=KW W hk
    exact (rX (fun v=>!(okV v)) p.shared a p.shared.length cap xs W rfl (by omega) ((hxs.keep hk).mono (kU hk)) hxt (fun v hv cs W2 hk2 hc=>lW v cs W2 (by have:=jV (μ:=vrB) hv;omega) (hRs v hv) (ht.below ((hk.trans (hk2.mono (kU hk))).below)) hc)).mono fun e w' ⟨h1,h2⟩=>⟨_,h1,(by rw [hv1]),h2⟩) ?_
   rintro v w2 rfl hk2
   refine rs [] 60 2 ?_
   cases hv2:p.mutexes.any (fun s=>!(b7 s)) with
   | true=>
     refine gN [.slice b p.mutexes.length cap2,.func (.func 43) #[] #[]] (fun v=>v = .bool true) (fun W hk=>by
      have hk:=KW W hk
      exact (aEi (fun s=>!(b7 s)) p.mutexes b p.mutexes.length cap2 ys W rfl (by omega) ((hys.keep hk).mono (kU hk)) hyt (fun s hs cs W2 hk2 hc=>wG s cs W2 (by have:=jV (μ:=txB) hs;omega) hc)).mono fun e w' ⟨h1,h2⟩=>⟨_,h1,(by rw [hv2]),h2⟩) ?_
     rintro v w3 rfl hk3
     refine rs [] 60 4 ?_
     exact gR (.bool false) (fun W hk=>⟨by unfold okP;rw [hv1,hv2];rfl,(KW W hk).below⟩)
   | false=>
     refine gN [.slice b p.mutexes.length cap2,.func (.func 43) #[] #[]] (fun v=>v = .bool false) (fun W hk=>by
      have hk:=KW W hk
      exact (aEi (fun s=>!(b7 s)) p.mutexes b p.mutexes.length cap2 ys W rfl (by omega) ((hys.keep hk).mono (kU hk)) hyt (fun s hs cs W2 hk2 hc=>wG s cs W2 (by have:=jV (μ:=txB) hs;omega) hc)).mono fun e w' ⟨h1,h2⟩=>⟨_,h1,(by rw [hv2]),h2⟩) ?_
     rintro v w3 rfl hk3
     refine rs [] 60 4 ?_
     refine gN [.slice d p.threads.length cap3,.func (.func 46) #[] #[nP q]] (fun v=>v = .bool (p.threads.any fun x=>!(okT x))) (fun W hk0=>by
      have hk:=KW W hk0
      exact (aNx (fun x=>!(okT x)) q p.threads d p.threads.length cap3 zs W rfl (by omega) ((hzs.keep hk).mono (kU hk)) (hzt.imp fun x c hc=>hc.keep hk (kU hk)) (fun x hx cs W2 hk2 hc=>aEz x cs q W2 (by have:=jV (μ:=thB) hx;omega) (hRt x hx) (ht.below ((hk.trans (hk2.mono (kU hk))).below)) ((((hq1.keep hk0).mono fun k h=>aE (hB1 k h) hk0.size).keep hk2).mono (kU hk2)) hc)).mono fun e w' ⟨h1,h2⟩=>⟨_,h1,rfl,h2⟩) ?_
     rintro v w4 rfl hk4
     refine rk ?_
     exact gR (.bool (!(p.threads.any fun x=>!(okT x)))) (fun W hk=>⟨by unfold okP;rw [hv1,hv2];rfl,(KW W hk).below⟩)
end
end Go.Proofs.YtijopiphkgddhaaGreatDoor
