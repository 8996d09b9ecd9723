/- Texts of this proof, one behind the other. Conditions: those in each theorem. -/
import Derived.Test.YtijopiphkgddhaaGreatDoorPagQ1
import Derived.Test.YtijopiphkgddhaaGreatDoorPagQ11
import Derived.Test.YtijopiphkgddhaaGreatDoorPagQ10
import Derived.Test.YtijopiphkgddhaaGreatDoorPagQ9
import Derived.Test.YtijopiphkgddhaaGreatDoorPagQ3
set_option linter.unusedVariables false
set_option linter.unusedSimpArgs false
namespace Go.Proofs.YtijopiphkgddhaaGreatDoor
open Go.RowKit Go.As
section
open Go.Sy in
set_option maxRecDepth 100000 in
theorem wB:∀ (N:Nat) (L M:List St) (a1 a2:Option Addr) (n1 n2 cap1 cap2:Nat) (xs1 xs2:List Value) (w:World),n1=L.length→n2=M.length→cS L<N→cS L≤1099511627776→
  Sy.SlAt (·<w.heap.size) w a1 n1 9 xs1→Sy.SlAt (·<w.heap.size) w a2 n2 9 xs2→LsAt (StAt (·<w.heap.size) w) L xs1→LsAt (StAt (·<w.heap.size) w) M xs2→
  CB 30 #[.slice a1 n1 cap1,.slice a2 n2 cap2] w (.bool (bY L M)):=by
 intro N
 induction N with
 | zero=>intro L M a1 a2 n1 n2 cap1 cap2 xs1 xs2 w hn1 hn2 h;omega
 | succ N ihN=>
 intro L M a1 a2 n1 n2 cap1 cap2 xs1 xs2 w hn1 hn2 hN hbd hsl1 hsl2 hks1 hks2
 have hnl:=jQ L
 refine eN [.slice a1 n1 cap1,.slice a2 n2 cap2] Tryz.func30 (fun γ0 hγ0=>?_)
 refine rk ?_
 refine cJ (b:=!(intEq (n1:Int) (n2:Int))) (by kernel_rfl) (fun hnn=>?_) (fun hnn=>?_)
 ·
  refine rs [] 60 2 ?_
  refine gR (.bool false) (fun W hk=>⟨?_,hk.below⟩)
  rw [b9]
  intro h
  rw [intEq_eq] at hnn;simp_all
 have hnn1:n1=n2:=by rw [intEq_eq] at hnn;have:(n1:Int)=(n2:Int):=(by simpa using hnn);omega
 refine rk ?_
 refine cF ?_
 refine cZ (fun i:List St×List St×List St=>i.2.1.length) (fun i=>L=i.1++i.2.1∧M=i.1++i.2.2) (fun i=>⟨mkT [(0,vL a1 n1 cap1),(1,vL a2 n2 cap2),(5,vI (i.1.length:Int))],mkH [],gz,[]⟩)
  ([],L,M) ⟨rfl,rfl⟩ (by kernel_rfl)
  (fun h=>gU _ [(0,vL a1 n1 cap1),(1,vL a2 n2 cap2),(5,vI (([]:List St).length:Int))] [] gz (fun b hb=>hγ0 b hb) h) ?_
 rintro ⟨l1,l2,m2⟩ ⟨hI1,hI2⟩ ih
 simp only at hI1 hI2
 have hq1:n1=l1.length+l2.length:=by rw [hn1,hI1,aA]
 have hq2:n2=l1.length+m2.length:=by rw [hn2,hI2,aA]
 refine rk ?_
 cases l2 with
 | nil=>
   obtain rfl:m2=[]:=aF (by simp only [aD] at hq1;omega)
   refine ky (l1.length:Int) (n1:Int) (by rw [hq1];simp) (rk ?_)
   refine gR (.bool true) (fun W hk=>⟨?_,hk.below⟩)
   rw [sameB_t.2 (by rw [hI1,hI2])]
 | cons x l3=>
   obtain ⟨y,m3,rfl⟩:∃ y m3,m2=y::m3:=by
    cases m2 with
    | nil=>simp only [aD,aB] at hq1 hq2;omega
    | cons a b=>exact ⟨a,b,rfl⟩
   have hin1:l1.length<n1:=by rw [hq1,aB];omega
   have hin2:l1.length<n2:=by omega
   have hks1':=hks1
   have hks2':=hks2
   rw [hI1] at hks1'
   rw [hI2] at hks2'
   obtain ⟨c1,hc1,hcell1⟩:=hks1'.at_ (fun _ _ h=>h.len)
   obtain ⟨c2,hc2,hcell2⟩:=hks2'.at_ (fun _ _ h=>h.len)
   refine kx (l1.length:Int) (n1:Int) (by omega) (rk ?_)
   have hwl:cS L=cS l1+(swt x+cS l3):=by rw [hI1,vR];simp [cS]
   obtain ⟨uK,us,⟨uo,ut,uv,un,uk⟩,uB,uL⟩:=x
   simp only [StAt] at hc1
   obtain ⟨ucs,uj,uh,ubx,ui,uw,ulx,rfl,uhe,uhbs,uhbt,uhls,uhlt⟩:=hc1
   have uhe0:=uhe
   simp only [ExAt] at uhe0
   obtain ⟨uf,ug,uex,rfl,_⟩:=uhe0
   have hcell1:∀ j v,((yL uK us uo ut uv un uf uk.length ug uj uB.length uh ui uL.length uw):List Value)[j]?=some v→xs1[l1.length*9+j]?=some v:=hcell1
   have umid:∀ j v,((xL uo ut uv un uf uk.length ug):List Value)[j]?=some v→xs1[l1.length*9+2+j]?=some v:=rU hcell1 2 (zG [_,_] (xL uo ut uv un uf uk.length ug) [_,_])
   obtain ⟨vkind,vsn,⟨vop,vty,vbits,ven,vek⟩,vbody,vels⟩:=y
   simp only [StAt] at hc2
   obtain ⟨vcs,vba,vbc,vbx,vla,vlc,vlx,rfl,vhe,vhbs,vhbt,vhls,vhlt⟩:=hc2
   have vhe0:=vhe
   simp only [ExAt] at vhe0
   obtain ⟨vea,vec,vex,rfl,_⟩:=vhe0
   have hcell2:∀ j v,((yL vkind vsn vop vty vbits ven vea vek.length vec vba vbody.length vbc vla vels.length vlc):List Value)[j]?=some v→xs2[l1.length*9+j]?=some v:=hcell2
   have vmid:∀ j v,((xL vop vty vbits ven vea vek.length vec):List Value)[j]?=some v→xs2[l1.length*9+2+j]?=some v:=rU hcell2 2 (zG [_,_] (xL vop vty vbits ven vea vek.length vec) [_,_])
   simp only [swt] at hwl
   refine kN cP (by kernel_rfl) ?_
   refine bZ [] 60 ?_
   refine qI 52 54 cap1 l1.length hsl1 hin1 ?_
   refine bZ [] 60 ?_
   refine qL 3 (nI uK) l1.length 0 hsl1 (hcell1 0 _ rfl) ?_
   refine bZ [] 60 ?_
   refine qI 52 54 cap2 l1.length hsl2 hin2 ?_
   refine bZ [] 60 ?_
   refine qL 3 (nI vkind) l1.length 0 hsl2 (hcell2 0 _ rfl) ?_
   refine bZ [29] 60 ?_
   rcases aJ (intEq uK vkind) with hk1 | hk1
   rotate_left
   ·
    refine qS 27 (x := .bool (!(intEq uK vkind))) (.bool true) (by rw [hk1];rfl) ?_
    refine qS 28 (x := .bool (!(intEq uK vkind))) (.bool true) (by rw [hk1];rfl) ?_
    have hne:(St.mk uK us (Ex.mk uo ut uv un uk) uB uL)≠(St.mk vkind vsn (Ex.mk vop vty vbits ven vek) vbody vels):=by intro h;injection h;rw [intEq_eq] at hk1;simp_all
    refine bZ [] 60 ?_
    refine qE ?_
    refine rs [] 60 3 ?_
    refine gR (.bool false) (fun W hk=>⟨?_,hk.below⟩)
    rw [b9]
    intro h
    rw [hI1,hI2] at h
    have h2:=(List.cons.inj (aZ h)).1
    exact hne h2
   refine qS 27 (x := .bool (!(intEq uK vkind))) (.bool false) (by rw [hk1];rfl) ?_
   refine qS 28 (x := .bool (!(intEq uK vkind))) (.bool false) (by rw [hk1];rfl) ?_
   refine bZ [] 60 ?_
   refine qI 52 54 cap1 l1.length hsl1 hin1 ?_
   refine bZ [] 60 ?_
   refine qL 9 (nT us) l1.length 1 hsl1 (hcell1 1 _ rfl) ?_
   refine bZ [] 60 ?_
   refine qI 52 54 cap2 l1.length hsl2 hin2 ?_
   refine bZ [] 60 ?_
   refine qL 9 (nT vsn) l1.length 1 hsl2 (hcell2 1 _ rfl) ?_
   refine bZ [42] 60 ?_
   rcases aJ (bEqL us vsn) with hk2 | hk2
   rotate_left
   ·
    refine qS 39 (x := .bool (!(bEqL us vsn))) (.bool true) (by rw [hk2];rfl) ?_
    refine qS 40 (x := .bool (!(bEqL us vsn))) (.bool true) (by rw [hk2];rfl) ?_
    refine qS 41 (x := .bool (!(bEqL us vsn))) (.bool true) (by rw [hk2];rfl) ?_
    have hne:(St.mk uK us (Ex.mk uo ut uv un uk) uB uL)≠(St.mk vkind vsn (Ex.mk vop vty vbits ven vek) vbody vels):=by intro h;injection h;rw [bEqL_eq] at hk2;simp_all
    refine bZ [] 60 ?_
    refine qE ?_
    refine rs [] 60 3 ?_
    refine gR (.bool false) (fun W hk=>⟨?_,hk.below⟩)
    rw [b9]
    intro h
    rw [hI1,hI2] at h
    have h2:=(List.cons.inj (aZ h)).1
    exact hne h2
   refine qS 39 (x := .bool (!(bEqL us vsn))) (.bool false) (by rw [hk2];rfl) ?_
   refine qS 40 (x := .bool (!(bEqL us vsn))) (.bool false) (by rw [hk2];rfl) ?_
   refine qS 41 (x := .bool (!(bEqL us vsn))) (.bool false) (by rw [hk2];rfl) ?_
   refine bZ [] 60 ?_
   refine qI 52 54 cap1 l1.length hsl1 hin1 ?_
   refine bZ [] 60 ?_
   refine qD 51 5 (xL uo ut uv un uf uk.length ug) l1.length 2 hsl1 rfl umid ?_
   refine bZ [] 60 ?_
   refine qI 52 54 cap2 l1.length hsl2 hin2 ?_
   refine bZ [] 60 ?_
   refine qD 51 5 (xL vop vty vbits ven vea vek.length vec) l1.length 2 hsl2 rfl vmid ?_
   refine bZ [] 60 ?_
   refine qB [xV uo ut uv un uf uk.length ug,xV vop vty vbits ven vea vek.length vec] (.bool (iL (Ex.mk uo ut uv un uk) (Ex.mk vop vty vbits ven vek))) (fun W hk=>aGd _ (Ex.mk uo ut uv un uk) (Ex.mk vop vty vbits ven vek) (xL uo ut uv un uf uk.length ug) (xL vop vty vbits ven vea vek.length vec) W (aH _) (by omega) (uhe.keep hk (kU hk)) (vhe.keep hk (kU hk))) ?_
   refine bZ [56] 60 ?_
   rcases aJ (iL (Ex.mk uo ut uv un uk) (Ex.mk vop vty vbits ven vek)) with hk3 | hk3
   rotate_left
   ·
    refine qS 53 (x := .bool (!(iL (Ex.mk uo ut uv un uk) (Ex.mk vop vty vbits ven vek)))) (.bool true) (by rw [hk3];rfl) ?_
    refine qS 54 (x := .bool (!(iL (Ex.mk uo ut uv un uk) (Ex.mk vop vty vbits ven vek)))) (.bool true) (by rw [hk3];rfl) ?_
    refine qS 55 (x := .bool (!(iL (Ex.mk uo ut uv un uk) (Ex.mk vop vty vbits ven vek)))) (.bool true) (by rw [hk3];rfl) ?_
    have hne:(St.mk uK us (Ex.mk uo ut uv un uk) uB uL)≠(St.mk vkind vsn (Ex.mk vop vty vbits ven vek) vbody vels):=by intro h;injection h with _ _ h _ _;rw [sameEx_t.2 h] at hk3;cases hk3
    refine bZ [] 60 ?_
    refine qE ?_
    refine rs [] 60 3 ?_
    refine gR (.bool false) (fun W hk=>⟨?_,hk.below⟩)
    rw [b9]
    intro h
    rw [hI1,hI2] at h
    have h2:=(List.cons.inj (aZ h)).1
    exact hne h2
   refine qS 53 (x := .bool (!(iL (Ex.mk uo ut uv un uk) (Ex.mk vop vty vbits ven vek)))) (.bool false) (by rw [hk3];rfl) ?_
   refine qS 54 (x := .bool (!(iL (Ex.mk uo ut uv un uk) (Ex.mk vop vty vbits ven vek)))) (.bool false) (by rw [hk3];rfl) ?_
   refine qS 55 (x := .bool (!(iL (Ex.mk uo ut uv un uk) (Ex.mk vop vty vbits ven vek)))) (.bool false) (by rw [hk3];rfl) ?_
   refine bZ [] 60 ?_
   refine qI 52 54 cap1 l1.length hsl1 hin1 ?_
   refine bZ [] 60 ?_
   refine qL 52 (.slice uj uB.length uh) l1.length 7 hsl1 (hcell1 7 _ rfl) ?_
   refine bZ [] 60 ?_
   refine qI 52 54 cap2 l1.length hsl2 hin2 ?_
   refine bZ [] 60 ?_
   refine qL 52 (.slice vba vbody.length vbc) l1.length 7 hsl2 (hcell2 7 _ rfl) ?_
   refine bZ [] 60 ?_
   refine qB [.slice uj uB.length uh,.slice vba vbody.length vbc] (.bool (bY uB vbody)) (fun W hk=>ihN uB vbody _ _ _ _ _ _ _ _ W rfl rfl (by omega) (by omega) ((uhbs.keep hk).mono (kU hk)) ((vhbs.keep hk).mono (kU hk)) (StsAt_ls.1 (uhbt.keep hk (kU hk))) (StsAt_ls.1 (vhbt.keep hk (kU hk)))) ?_
   refine bZ [70] 60 ?_
   rcases aJ (bY uB vbody) with hk4 | hk4
   rotate_left
   ·
    refine qS 67 (x := .bool (!(bY uB vbody))) (.bool true) (by rw [hk4];rfl) ?_
    refine qS 68 (x := .bool (!(bY uB vbody))) (.bool true) (by rw [hk4];rfl) ?_
    refine qS 69 (x := .bool (!(bY uB vbody))) (.bool true) (by rw [hk4];rfl) ?_
    have hne:(St.mk uK us (Ex.mk uo ut uv un uk) uB uL)≠(St.mk vkind vsn (Ex.mk vop vty vbits ven vek) vbody vels):=by intro h;injection h with _ _ _ h _;rw [sameB_t.2 h] at hk4;cases hk4
    refine bZ [] 60 ?_
    refine qE ?_
    refine rs [] 60 3 ?_
    refine gR (.bool false) (fun W hk=>⟨?_,hk.below⟩)
    rw [b9]
    intro h
    rw [hI1,hI2] at h
    have h2:=(List.cons.inj (aZ h)).1
    exact hne h2
   refine qS 67 (x := .bool (!(bY uB vbody))) (.bool false) (by rw [hk4];rfl) ?_
   refine qS 68 (x := .bool (!(bY uB vbody))) (.bool false) (by rw [hk4];rfl) ?_
   refine qS 69 (x := .bool (!(bY uB vbody))) (.bool false) (by rw [hk4];rfl) ?_
   refine bZ [] 60 ?_
   refine qI 52 54 cap1 l1.length hsl1 hin1 ?_
   refine bZ [] 60 ?_
   refine qL 52 (.slice ui uL.length uw) l1.length 8 hsl1 (hcell1 8 _ rfl) ?_
   refine bZ [] 60 ?_
   refine qI 52 54 cap2 l1.length hsl2 hin2 ?_
   refine bZ [] 60 ?_
   refine qL 52 (.slice vla vels.length vlc) l1.length 8 hsl2 (hcell2 8 _ rfl) ?_
   refine bZ [] 60 ?_
   refine qB [.slice ui uL.length uw,.slice vla vels.length vlc] (.bool (bY uL vels)) (fun W hk=>ihN uL vels _ _ _ _ _ _ _ _ W rfl rfl (by omega) (by omega) ((uhls.keep hk).mono (kU hk)) ((vhls.keep hk).mono (kU hk)) (StsAt_ls.1 (uhlt.keep hk (kU hk))) (StsAt_ls.1 (vhlt.keep hk (kU hk)))) ?_
   refine bZ [] 60 ?_
   refine qE ?_
   refine rk ?_
   refine cJ (b:=!(bY uL vels)) (by kernel_rfl) (fun hss=>?_) (fun hss=>?_)
   ·
    have hne:(St.mk uK us (Ex.mk uo ut uv un uk) uB uL)≠(St.mk vkind vsn (Ex.mk vop vty vbits ven vek) vbody vels):=by intro h;injection h with _ _ _ _ h;rw [sameB_t.2 h] at hss;cases hss
    refine rs [] 60 2 ?_
    refine gR (.bool false) (fun W hk=>⟨?_,hk.below⟩)
    rw [b9]
    intro h
    rw [hI1,hI2] at h
    have h2:=(List.cons.inj (aZ h)).1
    exact hne h2
   ·
    have hxy:(St.mk uK us (Ex.mk uo ut uv un uk) uB uL)=(St.mk vkind vsn (Ex.mk vop vty vbits ven vek) vbody vels):=by
     have h5:uL=vels:=sameB_t.1 (by simpa using hss)
     have h4:=sameB_t.1 hk4
     have h3:=sameEx_t.1 hk3
     rw [bEqL_eq] at hk2
     rw [intEq_eq] at hk1
     have h2:us=vsn:=by simpa using hk2
     have h1:uK=vkind:=by simpa using hk1
     rw [h1,h2,h3,h4,h5]
    refine rs [] 60 2 ?_
    refine gJ 5 l1 (St.mk uK us (Ex.mk uo ut uv un uk) uB uL) (by omega) ?_
    exact gU _ [(0,vL a1 n1 cap1),(1,vL a2 n2 cap2),(5,vI ((l1++[(St.mk uK us (Ex.mk uo ut uv un uk) uB uL)]).length:Int))] [] gz (fun b hb=>hγ0 b hb) (ih (l1++[(St.mk uK us (Ex.mk uo ut uv un uk) uB uL)],l3,m3) ⟨(by show L=(l1++[_])++l3;rw [hI1];simp),(by show M=(l1++[_])++m3;rw [hI2,← hxy];simp)⟩ lS1)
end
section
open Go.Sy in
set_option maxRecDepth 100000 in
theorem rP (p q:Pg) (cs1 cs2:List Value) (w:World) (hbd0:pwt p≤1099511627776) (hp:PgAt (·<w.heap.size) w p cs1) (hq:PgAt (·<w.heap.size) w q cs2):
  CB 9 #[.agg cs1.toArray,.agg cs2.toArray] w (.bool (bY p q)):=by
 obtain ⟨pa,qc,pxs0,pb,pcap2,pys0,pd,qe,pzs0,rfl,pxs,pxt,pys,pyt,pzs,pzt⟩:=hp
 obtain ⟨vn,hpns⟩:∃ n,n=p.shared.length:=⟨_,rfl⟩
 rw [← hpns] at pxs ⊢
 obtain ⟨qm,hpnm⟩:∃ n,n=p.mutexes.length:=⟨_,rfl⟩
 rw [← hpnm] at pys ⊢
 obtain ⟨qt,hpnt⟩:∃ n,n=p.threads.length:=⟨_,rfl⟩
 rw [← hpnt] at pzs ⊢
 obtain ⟨qa,qcap,qxs0,qb,qcap2,qys0,qd,qcap3,qzs0,rfl,qxs,qxt,qys,qyt,qzs,qzt⟩:=hq
 obtain ⟨qns,hqns⟩:∃ n,n=q.shared.length:=⟨_,rfl⟩
 rw [← hqns] at qxs ⊢
 obtain ⟨qnm,hqnm⟩:∃ n,n=q.mutexes.length:=⟨_,rfl⟩
 rw [← hqnm] at qys ⊢
 obtain ⟨qnt,hqnt⟩:∃ n,n=q.threads.length:=⟨_,rfl⟩
 rw [← hqnt] at qzs ⊢
 have hbd:vn+qm+fZ p.threads≤1099511627776:=by rw [hpns,hpnm];exact hbd0
 have hnl:=aAm p.threads
 refine eN [.agg #[.slice pa vn qc,.slice pb qm pcap2,.slice pd qt qe],.agg #[.slice qa qns qcap,.slice qb qnm qcap2,.slice qd qnt qcap3]] Tryz.func9 (fun γ0 hγ0=>?_)
 refine rs [8] 60 0 ?_
 refine oS [gz,gz+1] (gz+2) (by kernel_rfl) (fun b hb=>hγ0 b (bC (bL _ 2) hb)) ?_
 intro γ1 B1 w1 hle1 hγ1 hB01 hB1 hk01 hLk
 have pxs1:=(pxs.keep hk01).mono hB01
 have pys1:=(pys.keep hk01).mono hB01
 have pzs1:=(pzs.keep hk01).mono hB01
 have pzt1:=pzt.imp (fun _ _ h=>ThAt.keep hk01 hB01 h)
 have qxs1:=(qxs.keep hk01).mono hB01
 have qys1:=(qys.keep hk01).mono hB01
 have qzs1:=(qzs.keep hk01).mono hB01
 have qzt1:=qzt.imp (fun _ _ h=>ThAt.keep hk01 hB01 h)
 refine rk ?_
 refine gX [.slice pa vn qc,.slice qa qns qcap] (.bool (bY p.shared q.shared)) (fun W hk=>qO p.shared q.shared _ _ _ _ _ _ _ _ W hpns hqns (by omega) ((pxs1.keep hk).mono (fun k h=>aE (hB1 k h) hk.size)) ((qxs1.keep hk).mono (fun k h=>aE (hB1 k h) hk.size)) pxt qxt) (rs [15] 60 0 ?_)
 rcases aJ (bY p.shared q.shared) with hk1 | hk1
 rotate_left
 ·
  refine gS 13 (x := .bool (!(bY p.shared q.shared))) (.bool true) (by rw [hk1];rfl) ?_
  refine gS 14 (x := .bool (!(bY p.shared q.shared))) (.bool true) (by rw [hk1];rfl) (rs [] 60 4 ?_)
  refine gR (.bool false) (fun W hk=>⟨?_,(hk01.trans (hk.mono hB01)).below⟩)
  rw [b9]
  intro h
  rw [sameB_t.2 (by rw [h])] at hk1;cases hk1
 refine gS 13 (x := .bool (!(bY p.shared q.shared))) (.bool false) (by rw [hk1];rfl) ?_
 refine gS 14 (x := .bool (!(bY p.shared q.shared))) (.bool false) (by rw [hk1];rfl) (rk ?_)
 refine gX [.slice pb qm pcap2,.slice qb qnm qcap2] (.bool (bY p.mutexes q.mutexes)) (fun W hk=>aFa p.mutexes q.mutexes _ _ _ _ _ _ _ _ W hpnm hqnm (by omega) ((pys1.keep hk).mono (fun k h=>aE (hB1 k h) hk.size)) ((qys1.keep hk).mono (fun k h=>aE (hB1 k h) hk.size)) pyt qyt) (rs [23] 60 0 ?_)
 rcases aJ (bY p.mutexes q.mutexes) with hk2 | hk2
 rotate_left
 ·
  refine gS 20 (x := .bool (!(bY p.mutexes q.mutexes))) (.bool true) (by rw [hk2];rfl) ?_
  refine gS 21 (x := .bool (!(bY p.mutexes q.mutexes))) (.bool true) (by rw [hk2];rfl) ?_
  refine gS 22 (x := .bool (!(bY p.mutexes q.mutexes))) (.bool true) (by rw [hk2];rfl) (rs [] 60 4 ?_)
  refine gR (.bool false) (fun W hk=>⟨?_,(hk01.trans (hk.mono hB01)).below⟩)
  rw [b9]
  intro h
  rw [sameB_t.2 (by rw [h])] at hk2;cases hk2
 refine gS 20 (x := .bool (!(bY p.mutexes q.mutexes))) (.bool false) (by rw [hk2];rfl) ?_
 refine gS 21 (x := .bool (!(bY p.mutexes q.mutexes))) (.bool false) (by rw [hk2];rfl) ?_
 refine gS 22 (x := .bool (!(bY p.mutexes q.mutexes))) (.bool false) (by rw [hk2];rfl) (rk ?_)
 refine cJ (b:=!(intEq (qt:Int) (qnt:Int))) (by kernel_rfl) (fun hnn=>?_) (fun hnn=>?_)
 ·
  refine rs [] 60 4 ?_
  refine gR (.bool false) (fun W hk=>⟨?_,(hk01.trans (hk.mono hB01)).below⟩)
  rw [b9]
  intro h
  rw [intEq_eq] at hnn;simp_all
 have hnn1:qt=qnt:=by rw [intEq_eq] at hnn;have:(qt:Int)=(qnt:Int):=(by simpa using hnn);omega
 refine rk ?_
 refine cF ?_
 refine cZ (fun i:List Th×List Th×List Th=>i.2.1.length) (fun i=>p.threads=i.1++i.2.1∧q.threads=i.1++i.2.2) (fun i=>⟨mkT [(2,.ptr gz 0),(3,.ptr (gz+1) 0),(5,vI ((i.1.length:Nat):Int))],mkH [(gz,some (.cells 27 false true true 3 (d6 .leaf 0 [vL pa vn qc,vL pb qm pcap2,vL pd qt qe]))),(gz+1,some (.cells 27 false true true 3 (d6 .leaf 0 [vL qa qns qcap,vL qb qnm qcap2,vL qd qnt qcap3])))],gz+2,[]⟩)
  ([],p.threads,q.threads) ⟨rfl,rfl⟩ (by kernel_rfl)
  (fun h=>gU _ [(2,.ptr gz 0),(3,.ptr (gz+1) 0),(5,vI ((([]:List Th).length:Nat):Int))] [(gz,some (.cells 27 false true true 3 (d6 .leaf 0 [vL pa vn qc,vL pb qm pcap2,vL pd qt qe]))),(gz+1,some (.cells 27 false true true 3 (d6 .leaf 0 [vL qa qns qcap,vL qb qnm qcap2,vL qd qnt qcap3])))] (gz+2) hγ1 h) ?_
 rintro ⟨l1,l2,m2⟩ ⟨hI1,hI2⟩ ih
 simp only at hI1 hI2
 have hq1:qt=l1.length+l2.length:=by rw [hpnt,hI1,aA]
 have hq2:qnt=l1.length+m2.length:=by rw [hqnt,hI2,aA]
 refine rk ?_
 cases l2 with
 | nil=>
   obtain rfl:m2=[]:=aF (by simp only [aD] at hq1;omega)
   refine ky (l1.length:Int) (qt:Int) (by rw [hq1];simp) (rk ?_)
   refine gR (.bool true) (fun W hk=>⟨?_,(hk01.trans (hk.mono hB01)).below⟩)
   have h1:=sameB_t.1 hk1
   have h2:=sameB_t.1 hk2
   have h3:p.threads=q.threads:=by rw [hI1,hI2]
   rw [sameB_t.2 (by cases p;cases q;simp_all)]
 | cons x l3=>
   obtain ⟨y,m3,rfl⟩:∃ y m3,m2=y::m3:=by
    cases m2 with
    | nil=>simp only [aD,aB] at hq1 hq2;omega
    | cons a b=>exact ⟨a,b,rfl⟩
   have hin1:l1.length<qt:=by rw [hq1,aB];omega
   have hin2:l1.length<qnt:=by omega
   have hwl:fZ p.threads=fZ l1+(thw x+fZ l3):=by rw [hI1,aAz];simp [fZ]
   simp only [thw] at hwl
   have hks1':=pzt1
   have hks2':=qzt1
   rw [hI1] at hks1'
   rw [hI2] at hks2'
   obtain ⟨c1,⟨xa,xcap,xxs,xb,xcap2,xys,rfl,xh1,xh2,xh3,xh4⟩,hcell1⟩:=hks1'.at_ (fun _ _ h=>h.len)
   obtain ⟨c2,⟨ya,ycap,yxs,yb,ycap2,yys,rfl,yh1,yh2,yh3,yh4⟩,hcell2⟩:=hks2'.at_ (fun _ _ h=>h.len)
   refine kx (l1.length:Int) (qt:Int) (by omega) (rk ?_)
   refine aNe cP (.take 0 (.take 1 (.take 2 (.take 3 (.take 4 (.take 5 (.take 6 (.take 7 (.take 8 (.take 9 (.alt (.run 10 (.run 11 (.run 12 .done))) (.run 11 (.run 10 (.run 12 .done)))))))))))))) 13 (by kernel_rfl) ?_
   have hL1:∀ b,b6 b [gz,gz+1]=true→∃ p,γ1 b=some p∧B1 p.1:=fun b hb=>let ⟨p,h1,h2,_⟩:=hLk b hb;⟨p,h1,h2⟩
   refine fI [gz,gz+1] 3 (Bs:=B1) (ws:=w1) (by kernel_rfl) (fun _ h=>h) hL1 ?_
   refine aFr (.pointer (some ⟨gB pd,oB pd+l1.length*3,none⟩)) (S:=Instr.indexAt 25 (.slice pd qt qe) (nI (l1.length:Int))) (by kernel_rfl) (Bs:=B1) (ws:=w1) (by kernel_rfl) (fun _ h=>h) (fun W _=>aBu (e:=56) pzs1 (by kernel_rfl) (by kernel_rfl) hin1 W) ?_
   refine aFr (.agg #[nT x.name,.slice xa x.locals.length xcap,.slice xb x.body.length xcap2]) (S:=Instr.loadAt 56 (.pointer (some ⟨gB pd,oB pd+l1.length*3+0,none⟩))) (by kernel_rfl) (Bs:=B1) (ws:=w1) (by kernel_rfl) (fun _ h=>h) (fun W hk=>d9 (P:=Tryz.prog) (ty:=56) (m:=3) (cs:=[nT x.name,.slice xa x.locals.length xcap,.slice xb x.body.length xcap2]) pzs1 (by kernel_rfl) (by kernel_rfl) l1.length 0 rfl hcell1 hk) ?_
   refine fI [gz,gz+1] 3 (Bs:=B1) (ws:=w1) (by kernel_rfl) (fun _ h=>h) hL1 ?_
   refine aFr (.pointer (some ⟨gB qd,oB qd+l1.length*3,none⟩)) (S:=Instr.indexAt 25 (.slice qd qnt qcap3) (nI (l1.length:Int))) (by kernel_rfl) (Bs:=B1) (ws:=w1) (by kernel_rfl) (fun _ h=>h) (fun W _=>aBu (e:=56) qzs1 (by kernel_rfl) (by kernel_rfl) hin2 W) ?_
   refine aFr (.agg #[nT y.name,.slice ya y.locals.length ycap,.slice yb y.body.length ycap2]) (S:=Instr.loadAt 56 (.pointer (some ⟨gB qd,oB qd+l1.length*3+0,none⟩))) (by kernel_rfl) (Bs:=B1) (ws:=w1) (by kernel_rfl) (fun _ h=>h) (fun W hk=>d9 (P:=Tryz.prog) (ty:=56) (m:=3) (cs:=[nT y.name,.slice ya y.locals.length ycap,.slice yb y.body.length ycap2]) qzs1 (by kernel_rfl) (by kernel_rfl) l1.length 0 rfl hcell2 hk) ?_
   refine aFm (by kernel_rfl) ?_ ?_
   ·
    refine pR (Keep B1 w1) (fun _ h=>h) ?_
    refine rk ?_
    refine pR (Keep B1 w1) (fun _ h=>h) ?_
    refine rk ?_
    refine pR (Keep B1 w1) (fun _ h=>h) ?_
    refine rk ?_
    refine lO (by kernel_rfl) ?_ (Keep B1 w1) (by kernel_rfl) (fun _ h=>h)
    refine rs [54] 60 0 ?_
    rcases aJ (bEqL x.name y.name) with hk3 | hk3
    rotate_left
    ·
     refine gS 52 (x := .bool (!(bEqL x.name y.name))) (.bool true) (by rw [hk3];rfl) ?_
     refine gS 53 (x := .bool (!(bEqL x.name y.name))) (.bool true) (by rw [hk3];rfl) (rs [] 60 4 ?_)
     refine gR (.bool false) (fun W hk=>⟨?_,(hk01.trans (hk.mono hB01)).below⟩)
     rw [b9]
     intro h
     have h:=congrArg Pg.threads h
     rw [hI1,hI2] at h
     have h:=(List.cons.inj (aZ h)).1
     rw [bEqL_eq] at hk3;simp_all
    refine gS 52 (x := .bool (!(bEqL x.name y.name))) (.bool false) (by rw [hk3];rfl) ?_
    refine gS 53 (x := .bool (!(bEqL x.name y.name))) (.bool false) (by rw [hk3];rfl) (rk ?_)
    refine gX [.slice xa x.locals.length xcap,.slice ya y.locals.length ycap] (.bool (bY x.locals y.locals)) (fun W hk=>qO x.locals y.locals _ _ _ _ _ _ _ _ W rfl rfl (by omega) ((xh1.keep hk).mono (fun k h=>aE (hB1 k h) hk.size)) ((yh1.keep hk).mono (fun k h=>aE (hB1 k h) hk.size)) xh2 yh2) (rs [62] 60 0 ?_)
    rcases aJ (bY x.locals y.locals) with hk4 | hk4
    rotate_left
    ·
     refine gS 59 (x := .bool (!(bY x.locals y.locals))) (.bool true) (by rw [hk4];rfl) ?_
     refine gS 60 (x := .bool (!(bY x.locals y.locals))) (.bool true) (by rw [hk4];rfl) ?_
     refine gS 61 (x := .bool (!(bY x.locals y.locals))) (.bool true) (by rw [hk4];rfl) (rs [] 60 4 ?_)
     refine gR (.bool false) (fun W hk=>⟨?_,(hk01.trans (hk.mono hB01)).below⟩)
     rw [b9]
     intro h
     have h:=congrArg Pg.threads h
     rw [hI1,hI2] at h
     have h:=(List.cons.inj (aZ h)).1
     rw [sameB_t.2 (by rw [h])] at hk4;cases hk4
    refine gS 59 (x := .bool (!(bY x.locals y.locals))) (.bool false) (by rw [hk4];rfl) ?_
    refine gS 60 (x := .bool (!(bY x.locals y.locals))) (.bool false) (by rw [hk4];rfl) ?_
    refine gS 61 (x := .bool (!(bY x.locals y.locals))) (.bool false) (by rw [hk4];rfl) (rk ?_)
    refine gX [.slice xb x.body.length xcap2,.slice yb y.body.length ycap2] (.bool (bY x.body y.body)) (fun W hk=>wB _ x.body y.body _ _ _ _ _ _ _ _ W rfl rfl (Nat.lt_succ_self _) (by omega) ((xh3.keep hk).mono (fun k h=>aE (hB1 k h) hk.size)) ((yh3.keep hk).mono (fun k h=>aE (hB1 k h) hk.size)) (StsAt_ls.1 (xh4.keep hk (fun k h=>aE (hB1 k h) hk.size))) (StsAt_ls.1 (yh4.keep hk (fun k h=>aE (hB1 k h) hk.size)))) (rk ?_)
    refine cJ (b:=!(bY x.body y.body)) (by kernel_rfl) (fun hss=>?_) (fun hss=>?_)
    ·
     refine rs [] 60 4 ?_
     refine gR (.bool false) (fun W hk=>⟨?_,(hk01.trans (hk.mono hB01)).below⟩)
     rw [b9]
     intro h
     have h:=congrArg Pg.threads h
     rw [hI1,hI2] at h
     have h:=(List.cons.inj (aZ h)).1
     rw [sameB_t.2 (by rw [h])] at hss;cases hss
    ·
     have hxy:x=y:=by
      have h5:x.body=y.body:=sameB_t.1 (by simpa using hss)
      have h4:=sameB_t.1 hk4
      rw [bEqL_eq] at hk3
      have h3:x.name=y.name:=by simpa using hk3
      cases x;cases y;simp_all
     refine rs [] 60 2 ?_
     refine gJ 5 l1 x (by omega) ?_
     exact gU _ [(2,.ptr gz 0),(3,.ptr (gz+1) 0),(5,vI (((l1++[x]).length:Nat):Int))] [(gz,some (.cells 27 false true true 3 (d6 .leaf 0 [vL pa vn qc,vL pb qm pcap2,vL pd qt qe]))),(gz+1,some (.cells 27 false true true 3 (d6 .leaf 0 [vL qa qns qcap,vL qb qnm qcap2,vL qd qnt qcap3])))] (gz+2) hγ1 (ih (l1++[x],l3,m3) ⟨(by show p.threads=(l1++[_])++l3;rw [hI1];simp),(by show q.threads=(l1++[_])++m3;rw [hI2,← hxy];simp)⟩ lS1)
   ·
    refine pR (Keep B1 w1) (fun _ h=>h) ?_
    refine rk ?_
    refine pR (Keep B1 w1) (fun _ h=>h) ?_
    refine rk ?_
    refine pR (Keep B1 w1) (fun _ h=>h) ?_
    refine rk ?_
    refine lO (by kernel_rfl) ?_ (Keep B1 w1) (by kernel_rfl) (fun _ h=>h)
    refine rs [54] 60 0 ?_
    rcases aJ (bEqL x.name y.name) with hk3 | hk3
    rotate_left
    ·
     refine gS 52 (x := .bool (!(bEqL x.name y.name))) (.bool true) (by rw [hk3];rfl) ?_
     refine gS 53 (x := .bool (!(bEqL x.name y.name))) (.bool true) (by rw [hk3];rfl) (rs [] 60 4 ?_)
     refine gR (.bool false) (fun W hk=>⟨?_,(hk01.trans (hk.mono hB01)).below⟩)
     rw [b9]
     intro h
     have h:=congrArg Pg.threads h
     rw [hI1,hI2] at h
     have h:=(List.cons.inj (aZ h)).1
     rw [bEqL_eq] at hk3;simp_all
    refine gS 52 (x := .bool (!(bEqL x.name y.name))) (.bool false) (by rw [hk3];rfl) ?_
    refine gS 53 (x := .bool (!(bEqL x.name y.name))) (.bool false) (by rw [hk3];rfl) (rk ?_)
    refine gX [.slice xa x.locals.length xcap,.slice ya y.locals.length ycap] (.bool (bY x.locals y.locals)) (fun W hk=>qO x.locals y.locals _ _ _ _ _ _ _ _ W rfl rfl (by omega) ((xh1.keep hk).mono (fun k h=>aE (hB1 k h) hk.size)) ((yh1.keep hk).mono (fun k h=>aE (hB1 k h) hk.size)) xh2 yh2) (rs [62] 60 0 ?_)
    rcases aJ (bY x.locals y.locals) with hk4 | hk4
    rotate_left
    ·
     refine gS 59 (x := .bool (!(bY x.locals y.locals))) (.bool true) (by rw [hk4];rfl) ?_
     refine gS 60 (x := .bool (!(bY x.locals y.locals))) (.bool true) (by rw [hk4];rfl) ?_
     refine gS 61 (x := .bool (!(bY x.locals y.locals))) (.bool true) (by rw [hk4];rfl) (rs [] 60 4 ?_)
     refine gR (.bool false) (fun W hk=>⟨?_,(hk01.trans (hk.mono hB01)).below⟩)
     rw [b9]
     intro h
     have h:=congrArg Pg.threads h
     rw [hI1,hI2] at h
     have h:=(List.cons.inj (aZ h)).1
     rw [sameB_t.2 (by rw [h])] at hk4;cases hk4
    refine gS 59 (x := .bool (!(bY x.locals y.locals))) (.bool false) (by rw [hk4];rfl) ?_
    refine gS 60 (x := .bool (!(bY x.locals y.locals))) (.bool false) (by rw [hk4];rfl) ?_
    refine gS 61 (x := .bool (!(bY x.locals y.locals))) (.bool false) (by rw [hk4];rfl) (rk ?_)
    refine gX [.slice xb x.body.length xcap2,.slice yb y.body.length ycap2] (.bool (bY x.body y.body)) (fun W hk=>wB _ x.body y.body _ _ _ _ _ _ _ _ W rfl rfl (Nat.lt_succ_self _) (by omega) ((xh3.keep hk).mono (fun k h=>aE (hB1 k h) hk.size)) ((yh3.keep hk).mono (fun k h=>aE (hB1 k h) hk.size)) (StsAt_ls.1 (xh4.keep hk (fun k h=>aE (hB1 k h) hk.size))) (StsAt_ls.1 (yh4.keep hk (fun k h=>aE (hB1 k h) hk.size)))) (rk ?_)
    refine cJ (b:=!(bY x.body y.body)) (by kernel_rfl) (fun hss=>?_) (fun hss=>?_)
    ·
     refine rs [] 60 4 ?_
     refine gR (.bool false) (fun W hk=>⟨?_,(hk01.trans (hk.mono hB01)).below⟩)
     rw [b9]
     intro h
     have h:=congrArg Pg.threads h
     rw [hI1,hI2] at h
     have h:=(List.cons.inj (aZ h)).1
     rw [sameB_t.2 (by rw [h])] at hss;cases hss
    ·
     have hxy:x=y:=by
      have h5:x.body=y.body:=sameB_t.1 (by simpa using hss)
      have h4:=sameB_t.1 hk4
      rw [bEqL_eq] at hk3
      have h3:x.name=y.name:=by simpa using hk3
      cases x;cases y;simp_all
     refine rs [] 60 2 ?_
     refine gJ 5 l1 x (by omega) ?_
     exact gU _ [(2,.ptr gz 0),(3,.ptr (gz+1) 0),(5,vI (((l1++[x]).length:Nat):Int))] [(gz,some (.cells 27 false true true 3 (d6 .leaf 0 [vL pa vn qc,vL pb qm pcap2,vL pd qt qe]))),(gz+1,some (.cells 27 false true true 3 (d6 .leaf 0 [vL qa qns qcap,vL qb qnm qcap2,vL qd qnt qcap3])))] (gz+2) hγ1 (ih (l1++[x],l3,m3) ⟨(by show p.threads=(l1++[_])++l3;rw [hI1];simp),(by show q.threads=(l1++[_])++m3;rw [hI2,← hxy];simp)⟩ lS1)
end
section
def aSi (L:List St) (w:World) (v:Value) (w':World):Prop:=∃ a' cap' xs',v = .slice a' L.length cap'∧Sy.SlAt (dC w w') w' a' L.length 9 xs'∧StsAt (dC w w') w' L xs'
end
section
set_option maxRecDepth 100000
theorem StPr.opened {x:St} {w w':World} {v:Value} (h:StPr x w v w'):∃ (sk:Int) (sn:List UInt8) (op ty bits:Int) (en:List UInt8) (ek:List Ex) (ea:Option Addr) (ec:Nat) (bs:List St) (ba:Option Addr) (bc:Nat) (ls:List St) (la:Option Addr) (lc:Nat),x = .mk sk sn (.mk op ty bits en ek) bs ls∧
  v = .agg #[.int .i64 sk,.string (str sn),.int .u8 op,.int .u8 ty,.int .u64 bits,.string (str en),.slice ea ek.length ec,.slice ba bs.length bc,.slice la ls.length lc]∧StAt (dC w w') w' x [.int .i64 sk,.string (str sn),.int .u8 op,.int .u8 ty,.int .u64 bits,.string (str en),.slice ea ek.length ec,.slice ba bs.length bc,.slice la ls.length lc]:=by
 obtain ⟨ds,rfl,hx⟩:=h
 obtain ⟨sk,sn,⟨op,ty,bits,en,ek⟩,bs,ls⟩:=x
 have hx0:=hx
 simp only [StAt] at hx
 obtain ⟨ecs,ba,bc,bx,la,lc,lx,rfl,he,_⟩:=hx
 simp only [ExAt] at he
 obtain ⟨ea,ec,ex,rfl,_⟩:=he
 exact ⟨sk,sn,op,ty,bits,en,ek,ea,ec,bs,ba,bc,ls,la,lc,rfl,rfl,hx0⟩
theorem aN1 {w W w1:World} {B1:Nat→Prop} {x:St} {cs:List Value} (hN:∀ k,dC W w1 k→Nw w B1 k) (h:StAt (dC W w1) w1 x cs):StAt (Nw w B1) w1 x cs:=h.keep (.refl _ _) hN
theorem aS6 {F:Nat→Prop} {w w1 w2:World} {b:Nat} {r:Rd} {B B2:Nat→Prop} {x:St} {cs:List Value} (ri:RI F w b r B w1) (h:StAt (Nw w B) w1 x cs) (hk:Sy.Keep (fun k=>B k∧¬ k=b) w1 w2) (hB:∀ k,B k→B2 k):StAt (Nw w B2) w2 x cs:=h.keep (jC ri hk) fun k g=>⟨hB k g.1,g.2⟩
theorem aUr {F:Nat→Prop} {w w1 W:World} {b:Nat} {r:Rd} {B:Nat→Prop} {x:St} {cs:List Value} (ri:RI F w b r B w1) (h:StAt (Nw w B) w1 x cs) (hk:Sy.Keep B w1 W):StAt (dC w W) W x cs:=h.keep (hk.mono fun k g=>g.1) fun k g=>⟨g.2,aE (ri.lt k g.1) hk.size⟩
theorem jO {F:Nat→Prop} {w w1 w2:World} {b:Nat} {r:Rd} {B B2:Nat→Prop} {x:List St} {cs:List Value} (ri:RI F w b r B w1) (h:StsAt (Nw w B) w1 x cs) (hk:Sy.Keep (fun k=>B k∧¬ k=b) w1 w2) (hB:∀ k,B k→B2 k):StsAt (Nw w B2) w2 x cs:=h.keep (jC ri hk) fun k g=>⟨hB k g.1,g.2⟩
theorem mD {F:Nat→Prop} {w w1 W:World} {b:Nat} {r:Rd} {B:Nat→Prop} {x:List St} {cs:List Value} (ri:RI F w b r B w1) (h:StsAt (Nw w B) w1 x cs) (hk:Sy.Keep B w1 W):StsAt (dC w W) W x cs:=h.keep (hk.mono fun k g=>g.1) fun k g=>⟨g.2,aE (ri.lt k g.1) hk.size⟩
theorem lR {F:Nat→Prop} {w w1 W:World} {b n sz:Nat} {r:Rd} {B:Nat→Prop} {a:Option Addr} {xs:List Value} (ri:RI F w b r B w1) (h:Sy.SlAt (Nw w B) w1 a n sz xs) (hk:Sy.Keep B w1 W):Sy.SlAt (dC w W) W a n sz xs:=(h.keep (hk.mono fun k g=>g.1)).mono fun k g=>⟨g.2,aE (ri.lt k g.1) hk.size⟩
theorem aHx {F:Nat→Prop} {w:World} (kind:Int) (nm:List UInt8) {e:Ex} {ec:List Value} {a1 a2:Option Addr} {c1 c2:Nat} {x1 x2:List Value} {l1 l2:List St} (h:ExAt F w e ec) (h1:Sy.SlAt F w a1 l1.length 9 x1) (h2:StsAt F w l1 x1) (h3:Sy.SlAt F w a2 l2.length 9 x2) (h4:StsAt F w l2 x2):
  StAt F w (.mk kind nm e l1 l2) (.int .i64 kind :: .string (str nm)::(ec++[.slice a1 l1.length c1,.slice a2 l2.length c2])):=by
 simp only [StAt]
 exact ⟨ec,a1,c1,x1,a2,c2,x2,rfl,h,h1,h2,h3,h4⟩
def aPk (n:Nat):Prop:=∀ (b:Nat) (r:Rd) (d:Nat) {F:Nat→Prop} (w:World),(∀ k,F k→k<w.heap.size)→RdAt F w b r→r.blocks=(d:Int)→d≤32→4*r.toks.length+3≤n→
 Calls Tryz.prog 118 #[.pointer (some ⟨b,0,none⟩)] w (Reads F b (fun r'=>r'.blocks=r.blocks) (fN n d r.toks) aSi w)
def aRc (n:Nat):Prop:=∀ (b:Nat) (r:Rd) (d:Nat) {F:Nat→Prop} (w:World),(∀ k,F k→k<w.heap.size)→RdAt F w b r→r.blocks=(d:Int)→d≤32→4*r.toks.length+2≤n→
 Calls Tryz.prog 72 #[.pointer (some ⟨b,0,none⟩)] w (Reads F b (fun r'=>r'.blocks=r.blocks) (d5 n d r.toks) aSi w)
def aPj (n:Nat):Prop:=∀ (b:Nat) (r:Rd) (d:Nat) {F:Nat→Prop} (w:World),(∀ k,F k→k<w.heap.size)→RdAt F w b r→r.blocks=(d:Int)→d≤32→4*r.toks.length+1≤n→
 Calls Tryz.prog 94 #[.pointer (some ⟨b,0,none⟩)] w (Reads F b (fun r'=>r'.blocks=r.blocks) (stK n d r.toks) StPr w)
structure SlI where
 r:Rd
 l1:List St
 xs:List Value
 X:Sy.AV
 ob:Option Sy.Blk
 m:Nat
def aSl (F:Nat→Prop) (w:World) (b:Nat) (r:Rd) (n d bb:Nat) (i:SlI) (B:Nat→Prop) (w1:World):Prop:=
 RI F w b i.r B w1∧StsAt (Nw w B) w1 i.l1 i.xs∧Sy.RowAt 54 9 bb i.l1.length i.xs i.X i.ob∧i.r.blocks=r.blocks∧
  d5 (n+1) d r.toks=(d5 (i.m+1) d i.r.toks).map (fun p=>(i.l1++p.1,p.2))∧i.m≤n∧4*i.r.toks.length+2≤i.m+1∧i.l1.length+i.r.toks.length≤r.toks.length
open Go.Sy
theorem aP0 {n:Nat} (hs:aRc n):aPk (n+1):=by
 intro b r d F w hF h hd hd32 hm
 have ri0:=RI.init hF h
 refine eN [nP b] Tryz.func118 (fun γ0 hγ0=>?_)
 refine rk ?_
 refine bU (bV _ _) [nP b] ri0 (by kernel_rfl) (by kernel_rfl) (by kernel_rfl) (by kernel_rfl) (by kernel_rfl) (fun W hF hr hk=>kB b r W hF hr) (fun ho W e p he hk => .pan (by cases ho) e p he hk) ?_
 rintro x1 ts1 r1 ho1 ht1 hn1 W v1 w1 B1 hv1 hkW1 ri1 hk1 hB1 hN1
 cases ho1
 subst hv1
 refine rk ?_
 refine bU (bV _ _) [nP b,nT [123]] ri1 (by kernel_rfl) (by kernel_rfl) (by kernel_rfl) (by kernel_rfl) (by kernel_rfl) (fun W hF hr hk=>e8 b r1 [123] W hF hr) (fun ho W e p he hk => .pan (by simp only [fN];unfold dD at ho;rw [aU,ht1] at ho;rw [ho]) e p he hk) ?_
 rintro x2 ts2 r2 ho2 ht2 hn2 W v2 w2 B2 hv2 hkW2 ri2 hk2 hB2 hN2
 unfold dD at ho2
 rw [ht1] at ho2
 obtain ⟨us,hus,e⟩:=aC ho2
 cases e
 subst hv2
 refine rk ?_
 have hbb:r2.blocks=(d:Int):=by rw [hn2.2,hn1.2,hd]
 have hlen:=b5 hus
 refine gV (nI r2.blocks) (S:=Instr.loadAt 3 (.pointer (some ⟨b,0+3,none⟩))) (fun W hk=>ri2.ld hk (by kernel_rfl) 3 (by decide) (fun a n cap=>rfl)) (rs [14] 60 0 ?_)
 refine gS 13 (x:=nI (cA .i64 (r2.blocks+1))) (nI (r2.blocks+1)) (by rw [cR (n:=r2.blocks+1) (by omega) (by omega)];) (rk ?_)
 refine nY (ty:=3) 3 (nI (r2.blocks+1)) ({ r2 with blocks:=r2.blocks+1 }) ri2 (by kernel_rfl) (by kernel_rfl) (by kernel_rfl) (by decide) (fun a n cap=>rfl) rfl rfl rfl ?_
 intro w3 B3 ri3 hk3 hB3
 obtain ⟨r3,hr3⟩:∃ q:Rd,q={ r2 with blocks:=r2.blocks+1 }:=⟨_,rfl⟩
 rw [← hr3] at ri3
 have ht3:r3.toks=r2.toks:=by rw [hr3]
 refine rk ?_
 refine gV (nI r3.blocks) (S:=Instr.loadAt 3 (.pointer (some ⟨b,0+3,none⟩))) (fun W hk=>ri3.ld hk (by kernel_rfl) 3 (by decide) (fun a n cap=>rfl)) (rk ?_)
 have hb3:r3.blocks=((d+1:Nat):Int):=by rw [hr3];show r2.blocks+1=_;rw [hbb];rfl
 by_cases hd2:d+1≤32
 rotate_left
 ·
  refine kx 32 r3.blocks (by omega) (rk ?_)
  refine bU (bV _ _) [nI 160,nI (cU r)] ri3 (by kernel_rfl) (by kernel_rfl) (by kernel_rfl) (by kernel_rfl) (by kernel_rfl) (fun W hF hr hk=>jJ b _ 160 _ (by decide) W hF hr) (fun ho W e p he hk => .pan (by simp only [fN,hus];rw [if_neg hd2]) e p he hk) ?_
  rintro x4 ts4 r4 ho4 ht4 hn4 W v4 w4 B4 hv4 hkW4 ri4 hk4 hB4 hN4
  cases ho4
 refine ky 32 r3.blocks (by omega) (rs [] 60 1 ?_)
 refine bU (bV _ _) [nP b] ri3 (by kernel_rfl) (by kernel_rfl) (by kernel_rfl) (by kernel_rfl) (by kernel_rfl) (fun W hF hr hk=>hs b r3 (d+1) W hF hr hb3 (by omega) (by rw [ht3,ht2];omega)) (fun ho W e p he hk => .pan (by simp only [fN,hus];rw [if_pos hd2,← ht2,← ht3,ho]) e p he hk) ?_
 rintro x4 ts4 r4 ho4 ht4 hn4 W v4 w4 B4 hv4 hkW4 ri4 hk4 hB4 hN4
 obtain ⟨ba4,bc4,bx4,rfl,hs4,hl4⟩:=hv4
 have hs4_4:SlAt (Nw w B4) w4 ba4 x4.length 9 bx4:=hs4.mono hN4
 have hl4_4:StsAt (Nw w B4) w4 x4 bx4:=hl4.keep (.refl _ _) hN4
 refine rk ?_
 refine bU (bV _ _) [nP b,nT [125]] ri4 (by kernel_rfl) (by kernel_rfl) (by kernel_rfl) (by kernel_rfl) (by kernel_rfl) (fun W hF hr hk=>e8 b r4 [125] W hF hr) (fun ho W e p he hk => .pan (by simp only [fN,hus];rw [if_pos hd2,← ht2,← ht3,ho4];simp only [];unfold dD at ho;rw [aU,ht4] at ho;rw [ho];rfl) e p he hk) ?_
 rintro x5 ts5 r5 ho5 ht5 hn5 W v5 w5 B5 hv5 hkW5 ri5 hk5 hB5 hN5
 unfold dD at ho5
 rw [ht4] at ho5
 obtain ⟨vs,hvs,e⟩:=aC ho5
 cases e
 subst hv5
 refine rk ?_
 have hs4_5:=iQ ri4 hs4_4 hk5 hB5
 have hl4_5:=jO ri4 hl4_4 hk5 hB5
 have hb5:r5.blocks=(d:Int)+1:=by rw [hn5.2,hn4,hb3];rfl
 refine gV (nI r5.blocks) (S:=Instr.loadAt 3 (.pointer (some ⟨b,0+3,none⟩))) (fun W hk=>ri5.ld hk (by kernel_rfl) 3 (by decide) (fun a n cap=>rfl)) (rs [32] 60 0 ?_)
 refine gS 31 (x:=nI (cA .i64 (r5.blocks - 1))) (nI (r5.blocks - 1)) (by rw [cR (by omega) (by omega)]) (rk ?_)
 refine nY (ty:=3) 3 (nI (r5.blocks - 1)) ({ r5 with blocks:=r5.blocks - 1 }) ri5 (by kernel_rfl) (by kernel_rfl) (by kernel_rfl) (by decide) (fun a n cap=>rfl) rfl rfl rfl ?_
 intro w6 B6 ri6 hk6 hB6
 obtain ⟨r6,hr6⟩:∃ q:Rd,q={ r5 with blocks:=r5.blocks - 1 }:=⟨_,rfl⟩
 rw [← hr6] at ri6
 have ht6:r6.toks=r5.toks:=by rw [hr6]
 have hs4_6:=iQ ri5 hs4_5 hk6 hB6
 have hl4_6:=jO ri5 hl4_5 hk6 hB6
 refine rs [] 60 2 ?_
 exact gR (.slice ba4 x4.length bc4) (fun W hk => .ret (r':=r6) (by simp only [fN,hus];rw [if_pos hd2,← ht2,← ht3,ho4];simp only [];rw [hvs,ht6,ht5];rfl) (by rw [hr6];show r5.blocks - 1=r.blocks;rw [hb5,hd];omega) (⟨_,_,_,rfl,lR ri6 hs4_6 hk,mD ri6 hl4_6 hk⟩) (ri6.to hk) (ri6.all hk))
theorem aP7 {n:Nat} (hb:aPk n):aPj (n+1):=by
 intro b r d F w hF h hd hd32 hm
 have ri0:=RI.init hF h
 refine eN [nP b] Tryz.func94 (fun γ0 hγ0=>?_)
 refine rk ?_
 rcases hI:bX [105,102] r.toks with _ | us
 rotate_left
 ·
  refine bU (bV _ _) [nP b,nT [105,102]] ri0 (by kernel_rfl) (by kernel_rfl) (by kernel_rfl) (by kernel_rfl) (by kernel_rfl) (fun W hF hr hk=>dV b r [105,102] hI W hF hr) (fun ho W e p he hk => .pan (by cases ho) e p he hk) ?_
  rintro x1 ts1 r1 ho1 ht1 hn1 W v1 w1 B1 hv1 hkW1 ri1 hk1 hB1 hN1
  cases ho1
  subst hv1
  refine rk ?_
  have hlen:=b5 hI
  refine gK true (b:=true) (rfl) (rk ?_)
  refine bU (bV _ _) [nP b] ri1 (by kernel_rfl) (by kernel_rfl) (by kernel_rfl) (by kernel_rfl) (by kernel_rfl) (fun W hF hr hk=>uP b r1 W hF hr) (fun ho W e p he hk => .pan (by simp only [stK,hI];rw [← ht1,ho]) e p he hk) ?_
  rintro x2 ts2 r2 ho2 ht2 hn2 W v2 w2 B2 hv2 hkW2 ri2 hk2 hB2 hN2
  obtain ⟨op2,ty2,bits2,nm2,kids2,a2,cap2,xs2,hx2,rfl,hq2⟩:=CopyPr.opened hv2
  have he2_2:=iI hN2 hq2
  refine rk ?_
  have hw2:=tV ho2
  refine bU (bV _ _) [nP b] ri2 (by kernel_rfl) (by kernel_rfl) (by kernel_rfl) (by kernel_rfl) (by kernel_rfl) (fun W hF hr hk=>hb b r2 d W hF hr (by rw [hn2,hn1.2,hd]) hd32 (by rw [ht2];rw [ht1] at hw2;omega)) (fun ho W e p he hk => .pan (by simp only [stK,hI];rw [← ht1,ho2];simp only [];rw [← ht2,ho]) e p he hk) ?_
  rintro x3 ts3 r3 ho3 ht3 hn3 W v3 w3 B3 hv3 hkW3 ri3 hk3 hB3 hN3
  obtain ⟨ba3,bc3,bx3,rfl,hs3,hl3⟩:=hv3
  have hs3_3:SlAt (Nw w B3) w3 ba3 x3.length 9 bx3:=hs3.mono hN3
  have hl3_3:StsAt (Nw w B3) w3 x3 bx3:=hl3.keep (.refl _ _) hN3
  refine rk ?_
  have he2_3:=j9 ri2 he2_2 hk3 hB3
  rcases hE:bX [101,108,115,101] r3.toks with _ | ys
  ·
   refine bU (bV _ _) [nP b,nT [101,108,115,101]] ri3 (by kernel_rfl) (by kernel_rfl) (by kernel_rfl) (by kernel_rfl) (by kernel_rfl) (fun W hF hr hk=>dU b r3 [101,108,115,101] hE W hF hr) (fun ho W e p he hk => .pan (by cases ho) e p he hk) ?_
   rintro x4 ts4 r4 ho4 ht4 hn4 W v4 w4 B4 hv4 hkW4 ri4 hk4 hB4 hN4
   cases ho4
   subst hv4
   refine rk ?_
   have he2_4:=j9 ri3 he2_3 hk4 hB4
   have hs3_4:=iQ ri3 hs3_3 hk4 hB4
   have hl3_4:=jO ri3 hl3_3 hk4 hB4
   refine gK false (b:=false) (rfl) (rs [] 60 3 ?_)
   exact gR (yV 5 [] op2 ty2 bits2 nm2 a2 kids2.length cap2 ba3 x3.length bc3 none 0 0) (fun W hk => .ret (r':=r4) (by simp only [stK,hI];rw [← ht1,ho2];simp only [];rw [← ht2,ho3];simp only [];rw [← ht3,hE];rw [ht4]) (by rw [hn4.2,hn3,hn2,hn1.2]) (⟨_,rfl,aHx (l2:=[]) (x2:=[]) 5 [] (fF ri4 he2_4 hk) (lR ri4 hs3_4 hk) (mD ri4 hl3_4 hk) ⟨rfl,.inl rfl⟩ rfl⟩) (ri4.to hk) (ri4.all hk))
  refine bU (bV _ _) [nP b,nT [101,108,115,101]] ri3 (by kernel_rfl) (by kernel_rfl) (by kernel_rfl) (by kernel_rfl) (by kernel_rfl) (fun W hF hr hk=>dV b r3 [101,108,115,101] hE W hF hr) (fun ho W e p he hk => .pan (by cases ho) e p he hk) ?_
  rintro x4 ts4 r4 ho4 ht4 hn4 W v4 w4 B4 hv4 hkW4 ri4 hk4 hB4 hN4
  cases ho4
  subst hv4
  refine rk ?_
  have he2_4:=j9 ri3 he2_3 hk4 hB4
  have hs3_4:=iQ ri3 hs3_3 hk4 hB4
  have hl3_4:=jO ri3 hl3_3 hk4 hB4
  have hlen2:=b5 hE
  have hw3:=(aCj n).1 _ _ _ _ ho3
  refine gK true (b:=true) (rfl) (rk ?_)
  refine bU (bV _ _) [nP b] ri4 (by kernel_rfl) (by kernel_rfl) (by kernel_rfl) (by kernel_rfl) (by kernel_rfl) (fun W hF hr hk=>hb b r4 d W hF hr (by rw [hn4.2,hn3,hn2,hn1.2,hd]) hd32 (by rw [ht4];rw [ht1] at hw2;rw [ht2] at hw3;rw [ht3] at hlen2;omega)) (fun ho W e p he hk => .pan (by simp only [stK,hI];rw [← ht1,ho2];simp only [];rw [← ht2,ho3];simp only [];rw [← ht3,hE];simp only [];rw [← ht4,ho];rfl) e p he hk) ?_
  rintro x5 ts5 r5 ho5 ht5 hn5 W v5 w5 B5 hv5 hkW5 ri5 hk5 hB5 hN5
  obtain ⟨ba5,bc5,bx5,rfl,hs5,hl5⟩:=hv5
  have hs5_5:SlAt (Nw w B5) w5 ba5 x5.length 9 bx5:=hs5.mono hN5
  have hl5_5:StsAt (Nw w B5) w5 x5 bx5:=hl5.keep (.refl _ _) hN5
  have he2_5:=j9 ri4 he2_4 hk5 hB5
  have hs3_5:=iQ ri4 hs3_4 hk5 hB5
  have hl3_5:=jO ri4 hl3_4 hk5 hB5
  refine rs [] 60 3 ?_
  exact gR (yV 5 [] op2 ty2 bits2 nm2 a2 kids2.length cap2 ba3 x3.length bc3 ba5 x5.length bc5) (fun W hk => .ret (r':=r5) (by simp only [stK,hI];rw [← ht1,ho2];simp only [];rw [← ht2,ho3];simp only [];rw [← ht3,hE];simp only [];rw [← ht4,ho5,ht5];rfl) (by rw [hn5,hn4.2,hn3,hn2,hn1.2]) (⟨_,rfl,aHx 5 [] (fF ri5 he2_5 hk) (lR ri5 hs3_5 hk) (mD ri5 hl3_5 hk) (lR ri5 hs5_5 hk) (mD ri5 hl5_5 hk)⟩) (ri5.to hk) (ri5.all hk))
 refine bU (bV _ _) [nP b,nT [105,102]] ri0 (by kernel_rfl) (by kernel_rfl) (by kernel_rfl) (by kernel_rfl) (by kernel_rfl) (fun W hF hr hk=>dU b r [105,102] hI W hF hr) (fun ho W e p he hk => .pan (by cases ho) e p he hk) ?_
 rintro x1 ts1 r1 ho1 ht1 hn1 W v1 w1 B1 hv1 hkW1 ri1 hk1 hB1 hN1
 cases ho1
 subst hv1
 refine rk ?_
 refine gK false (b:=false) (rfl) (rk ?_)
 rcases hWh:bX [119,104,105,108,101] r.toks with _ | us
 rotate_left
 ·
  refine bU (bV _ _) [nP b,nT [119,104,105,108,101]] ri1 (by kernel_rfl) (by kernel_rfl) (by kernel_rfl) (by kernel_rfl) (by kernel_rfl) (fun W hF hr hk=>dV b r1 [119,104,105,108,101] (ht1 ▸ hWh) W hF hr) (fun ho W e p he hk => .pan (by cases ho) e p he hk) ?_
  rintro x2 ts2 r2 ho2 ht2 hn2 W v2 w2 B2 hv2 hkW2 ri2 hk2 hB2 hN2
  cases ho2
  subst hv2
  refine rk ?_
  have hlen:=b5 hWh
  refine gK true (b:=true) (rfl) (rk ?_)
  refine bU (bV _ _) [nP b] ri2 (by kernel_rfl) (by kernel_rfl) (by kernel_rfl) (by kernel_rfl) (by kernel_rfl) (fun W hF hr hk=>uP b r2 W hF hr) (fun ho W e p he hk => .pan (by simp only [stK,hI,hWh];rw [← ht2,ho]) e p he hk) ?_
  rintro x3 ts3 r3 ho3 ht3 hn3 W v3 w3 B3 hv3 hkW3 ri3 hk3 hB3 hN3
  obtain ⟨op3,ty3,bits3,nm3,kids3,a3,cap3,xs3,hx3,rfl,hq3⟩:=CopyPr.opened hv3
  have he3_3:=iI hN3 hq3
  refine rk ?_
  have hw3:=tV ho3
  refine bU (bV _ _) [nP b] ri3 (by kernel_rfl) (by kernel_rfl) (by kernel_rfl) (by kernel_rfl) (by kernel_rfl) (fun W hF hr hk=>hb b r3 d W hF hr (by rw [hn3,hn2.2,hn1.2,hd]) hd32 (by rw [ht3];rw [ht2] at hw3;omega)) (fun ho W e p he hk => .pan (by simp only [stK,hI,hWh];rw [← ht2,ho3];simp only [];rw [← ht3,ho];rfl) e p he hk) ?_
  rintro x4 ts4 r4 ho4 ht4 hn4 W v4 w4 B4 hv4 hkW4 ri4 hk4 hB4 hN4
  obtain ⟨ba4,bc4,bx4,rfl,hs4,hl4⟩:=hv4
  have hs4_4:SlAt (Nw w B4) w4 ba4 x4.length 9 bx4:=hs4.mono hN4
  have hl4_4:StsAt (Nw w B4) w4 x4 bx4:=hl4.keep (.refl _ _) hN4
  refine rk ?_
  have he3_4:=j9 ri3 he3_3 hk4 hB4
  refine rs [] 60 3 ?_
  exact gR (yV 6 [] op3 ty3 bits3 nm3 a3 kids3.length cap3 ba4 x4.length bc4 none 0 0) (fun W hk => .ret (r':=r4) (by simp only [stK,hI,hWh];rw [← ht2,ho3];simp only [];rw [← ht3,ho4,ht4];rfl) (by rw [hn4,hn3,hn2.2,hn1.2]) (⟨_,rfl,aHx (l2:=[]) (x2:=[]) 6 [] (fF ri4 he3_4 hk) (lR ri4 hs4_4 hk) (mD ri4 hl4_4 hk) ⟨rfl,.inl rfl⟩ rfl⟩) (ri4.to hk) (ri4.all hk))
 refine bU (bV _ _) [nP b,nT [119,104,105,108,101]] ri1 (by kernel_rfl) (by kernel_rfl) (by kernel_rfl) (by kernel_rfl) (by kernel_rfl) (fun W hF hr hk=>dU b r1 [119,104,105,108,101] (ht1 ▸ hWh) W hF hr) (fun ho W e p he hk => .pan (by cases ho) e p he hk) ?_
 rintro x2 ts2 r2 ho2 ht2 hn2 W v2 w2 B2 hv2 hkW2 ri2 hk2 hB2 hN2
 cases ho2
 subst hv2
 refine rk ?_
 rw [ht1] at ht2
 refine gK false (b:=false) (rfl) (rs [] 60 2 ?_)
 refine bU (bV _ _) [nP b] ri2 (by kernel_rfl) (by kernel_rfl) (by kernel_rfl) (by kernel_rfl) (by kernel_rfl) (fun W hF hr hk=>aO9 b r2 W hF hr) (fun ho W e p he hk => .pan (by simp only [stK,hI,hWh];rw [← ht2,ho]) e p he hk) ?_
 rintro x3 ts3 r3 ho3 ht3 hn3 W v3 w3 B3 hv3 hkW3 ri3 hk3 hB3 hN3
 obtain ⟨sk3,sn3,op3,ty3,bits3,en3,ek3,ea3,ec3,bs3,ba3,bc3,ls3,la3,lc3,hx3,rfl,hq3⟩:=StPr.opened hv3
 have he3_3:=aN1 hN3 hq3
 refine rk ?_
 refine bU (bV _ _) [nP b,nT [59]] ri3 (by kernel_rfl) (by kernel_rfl) (by kernel_rfl) (by kernel_rfl) (by kernel_rfl) (fun W hF hr hk=>e8 b r3 [59] W hF hr) (fun ho W e p he hk => .pan (by simp only [stK,hI,hWh];rw [← ht2,ho3];simp only [];unfold dD at ho;rw [aU,ht3] at ho;rw [ho];rfl) e p he hk) ?_
 rintro x4 ts4 r4 ho4 ht4 hn4 W v4 w4 B4 hv4 hkW4 ri4 hk4 hB4 hN4
 unfold dD at ho4
 rw [ht3] at ho4
 obtain ⟨vs,hvs,e⟩:=aC ho4
 cases e
 subst hv4
 have he3_4:=aS6 ri3 he3_3 hk4 hB4
 refine rs [] 60 2 ?_
 exact gR (yV sk3 sn3 op3 ty3 bits3 en3 ea3 ek3.length ec3 ba3 bs3.length bc3 la3 ls3.length lc3) (fun W hk => .ret (r':=r4) (by simp only [stK,hI,hWh];rw [← ht2,ho3];simp only [];rw [hvs,ht4];rfl) (by rw [hn4.2,hn3,hn2.2,hn1.2]) (⟨_,rfl,aUr ri4 he3_4 hk⟩) (ri4.to hk) (ri4.all hk))
theorem aP9 {n:Nat} (hs:∀ m,m≤n→aPj m):aRc (n+1):=by
 intro b r d F w hF h hd hd32 hm
 have ri0:=RI.init hF h
 refine eN [nP b] Tryz.func72 (fun γ0 hγ0=>?_)
 refine rk ?_
 have hmlO:=ri0.len
 refine cF ?_
 refine fO (fun i:SlI=>i.r.toks.length) (aSl F w b r n d gz) (fun i=>⟨mkT [(0,vP b),(3,i.X)],mkH [(gz,i.ob)],gz+1,[]⟩)
  ⟨r,[],[],vL none 0 0,none,n⟩ ⟨ri0,rfl,RowAt.nil _ _ _,rfl,by
   show d5 (n+1) d r.toks=(d5 (n+1) d r.toks).map fun p=>([]++p.1,p.2)
   cases d5 (n+1) d r.toks <;> rfl,aH _,hm,by show ([]:List St).length+_≤_;simp⟩ (by kernel_rfl)
  (fun h=>gU _ [(0,vP b),(3,vL none 0 0)] [(gz,none)] (gz+1) (fun b hb=>hγ0 b (bC (Nat.le_succ _) hb)) h) ?_
 rintro ⟨r0,l1,xk,X,ob,m⟩ B0 w0 ⟨ri0,hxk,hrow,hbb,hspec,hmn,hfu,hcnt⟩ ih
 simp only at ri0 hxk hrow hbb hspec hmn hfu hcnt
 have hXlt:lF (gz+1) X=true:=hrow.lt (by omega)
 obtain ⟨a,nn,cap,xs,hbk,hnr,hncap,hnb,hsl,hls,hFb,htb⟩:=ri0.rd
 have hat:=mH (F:=B0) hbk (ri0.old b ri0.hb) rfl
 refine rk ?_
 refine gV (.slice a nn cap) (S:=Instr.loadAt 36 (.pointer (some ⟨b,0+0,none⟩))) (fun W hk=>ldB hat (by kernel_rfl) 0 rfl hk) (rs [11] 60 0 ?_)
 rcases ht:r0.toks with _ | ⟨t0,ts⟩
 ·
  have hn0:nn=0:=by rw [hnr,ht];rfl
  have hsr:d5 (m+1) d r0.toks=some ([],r0.toks):=by simp only [d5];rw [if_pos (.inl ht)]
  refine zy 9 0 (nn:Int) (by omega) ?_
  refine zy 10 0 (nn:Int) (by omega) ?_
  rcases hrow.2 with ⟨hX,hob,h0⟩ | ⟨hX,hob⟩
  all_goals
   subst hX hob
   refine rs [] 60 3 ?_
   exact zT (base:=w.heap.size) hrow (by kernel_rfl) (by kernel_rfl) (fun k g=>ri0.old k g) (fun W a' cap' hk hsl' => .ret (r':=r0) (by rw [hspec,hsr];simp) (hbb) ⟨a',cap',xk,rfl,hsl'.mono (fun k g=>g),mD ri0 (hxk) hk⟩ (ri0.to hk) (ri0.all hk))
 have hn0:0<nn:=by rw [hnr,ht];simp
 have htl:r0.toks.length=ts.length+1:=by rw [ht];rfl
 refine zx 9 0 (nn:Int) (by omega) ?_
 refine zx 10 0 (nn:Int) (by omega) (rk ?_)
 rcases hC:bX [125] r0.toks with _ | ys
 rotate_left
 ·
  refine bU (bV _ _) [nP b,nT [125]] ri0 (by kernel_rfl) (by kernel_rfl) (by kernel_rfl) (by rcases hrow.2 with ⟨_,h,_⟩ | ⟨_,h⟩ <;> subst h <;> kernel_rfl) (by kernel_rfl) (fun W hF hr hk=>sI b r0 [125] true (by rw [hC];rfl) W hF hr) (fun ho W e p he hk => .pan (by cases ho) e p he hk) ?_
  rintro x1 ts1 r1 ho1 ht1 hn1 W v1 w1 B1 hv1 hkW1 ri1 hk1 hB1 hN1
  cases ho1
  subst hv1
  have hsr:d5 (m+1) d r0.toks=some ([],r1.toks):=by simp only [d5];rw [if_pos (.inr (by rw [hC];rfl)),ht1]
  rcases hrow.2 with ⟨hX,hob,h0⟩ | ⟨hX,hob⟩
  all_goals
   subst hX hob
   refine rs [] 60 3 ?_
   exact zT (base:=w.heap.size) hrow (by kernel_rfl) (by kernel_rfl) (fun k g=>ri1.old k g) (fun W a' cap' hk hsl' => .ret (r':=r1) (by rw [hspec,hsr];simp) (by rw [hn1.2];exact hbb) ⟨a',cap',xk,rfl,hsl'.mono (fun k g=>g),mD ri1 (jO ri0 hxk hk1 hB1) hk⟩ (ri1.to hk) (ri1.all hk))
 refine bU (bV _ _) [nP b,nT [125]] ri0 (by kernel_rfl) (by kernel_rfl) (by kernel_rfl) (by rcases hrow.2 with ⟨_,h,_⟩ | ⟨_,h⟩ <;> subst h <;> kernel_rfl) (by kernel_rfl) (fun W hF hr hk=>sI b r0 [125] false (by rw [hC];rfl) W hF hr) (fun ho W e p he hk => .pan (by cases ho) e p he hk) ?_
 rintro x1 ts1 r1 ho1 ht1 hn1 W v1 w1 B1 hv1 hkW1 ri1 hk1 hB1 hN1
 cases ho1
 subst hv1
 have hxk_1:=jO ri0 hxk hk1 hB1
 have hsr:d5 (m+1) d r0.toks=match stK m d r0.toks with
   | none=>none
   | some (s,us)=>(d5 m d us).map fun p=>(s::p.1,p.2):=by
  simp only [d5]
  rw [if_neg (by rw [hC,ht];simp)]
  cases stK m d r0.toks <;> rfl
 refine rs [] 60 1 ?_
 refine bU (bV _ _) [nP b] ri1 (by kernel_rfl) (by kernel_rfl) (by kernel_rfl) (by rcases hrow.2 with ⟨_,h,_⟩ | ⟨_,h⟩ <;> subst h <;> kernel_rfl) (by kernel_rfl) (fun W hF hr hk=>hs m hmn b r1 d W hF hr (by rw [hn1.2,hbb,hd]) hd32 (by rw [ht1];omega)) (fun ho W e p he hk => .pan (by rw [hspec,hsr,← ht1,ho];rfl) e p he hk) ?_
 rintro x2 ts2 r2 ho2 ht2 hn2 W v2 w2 B2 hv2 hkW2 ri2 hk2 hB2 hN2
 obtain ⟨sk2,sn2,op2,ty2,bits2,en2,ek2,ea2,ec2,bs2,ba2,bc2,ls2,la2,lc2,hx2,rfl,hq2⟩:=StPr.opened hv2
 have he2_2:=aN1 hN2 hq2
 have hxk_2:=jO ri1 hxk_1 hk2 hB2
 rw [ht1] at ho2
 have hw2:=(aCj m).2.2 _ _ _ _ ho2
 have hp2:=aDf x2
 have hml:=ri0.len
 refine rs [19] 60 0 ?_
 have hcl:l1.length+1≤1000000000:=by omega
 refine nM (t:=52) (e:=54) (.slg (gz+1) 0 1 9) 9 136 gz l1.length 0 xk X ob (yL sk2 sn2 op2 ty2 bits2 en2 ea2 ek2.length ec2 ba2 bs2.length bc2 la2 ls2.length lc2) [3,15] (by kernel_rfl) (by kernel_rfl) (by kernel_rfl) (by kernel_rfl) hrow (by kernel_rfl) (by kernel_rfl) (by kernel_rfl)
  (by unfold maxLen;omega) (by omega) (hγ0 gz (aH _)) (by kernel_rfl) (by kernel_rfl) (by kernel_rfl) (by kernel_rfl) (by kernel_rfl) (fun X' ob' hrow'=>?_)
 rcases hrow'.2 with ⟨_,_,h0⟩ | ⟨rfl,rfl⟩
 · omega
 obtain ⟨m1,hm1⟩:∃ m1,m=m1+1:=⟨m - 1,by omega⟩
 refine rs [] 60 2 ?_
 have hI:aSl F w b r n d gz ⟨r2,l1++[x2],xk++(yL sk2 sn2 op2 ty2 bits2 en2 ea2 ek2.length ec2 ba2 bs2.length bc2 la2 ls2.length lc2),.slg gz 0 (l1.length+(0+1)) 9,some (.row 54 (xk++(yL sk2 sn2 op2 ty2 bits2 en2 ea2 ek2.length ec2 ba2 bs2.length bc2 la2 ls2.length lc2))),m1⟩ B2 w2:=by
  refine ⟨ri2,?_,?_,by show r2.blocks=_;rw [hn2,hn1.2,hbb],?_,by show m1≤n;omega,by show 4*r2.toks.length+2≤m1+1;rw [ht2];omega,by show (l1++[x2]).length+r2.toks.length≤r.toks.length;rw [aA,ht2,List.length_singleton];omega⟩
  · exact StsAt_ls.2 (LsAt.snoc (StsAt_ls.1 hxk_2) he2_2)
  · show RowAt _ 9 gz (l1++[_]).length _ _ _
    rw [aA]
    exact hrow'
  · show _=(d5 (m1+1) d r2.toks).map fun p=>((l1++[x2])++p.1,p.2)
    rw [hspec,hsr,ho2,ht2,← hm1]
    simp only []
    cases d5 m d ts2 <;> simp
 exact gU _ [(0,vP b),(3,.slg gz 0 (l1.length+(0+1)) 9)] [(gz,some (.row 54 (xk++(yL sk2 sn2 op2 ty2 bits2 en2 ea2 ek2.length ec2 ba2 bs2.length bc2 la2 ls2.length lc2))))] (gz+1) (fun b hb=>hγ0 b (bC (Nat.le_succ _) hb)) (ih _ B2 w2 hI (by show r2.toks.length<r0.toks.length;rw [ht2];omega))
theorem aM3:∀ n:Nat,aPk n∧aRc n∧(∀ m,m≤n→aPj m)
 | 0=>⟨fun b r d F w hF h hd h1 h3=>absurd h3 (by omega),fun b r d F w hF h hd h1 h3=>absurd h3 (by omega),fun m hm b r d F w hF h hd h1 h3=>absurd h3 (by omega)⟩
 | n+1=>by
   obtain ⟨hb,hl,hs⟩:=aM3 n
   refine ⟨aP0 hl,aP9 hs,fun m hm=>?_⟩
   rcases aY m (n+1) with h | h
   · exact hs m (by omega)
   · obtain rfl:m=n+1:=by omega
     exact aP7 hb
end
section
structure VlI where
 r:Rd
 l1:List Vr
 xs:List Value
 X:Sy.AV
 ob:Option Sy.Blk
 m:Nat
def aSd (F:Nat→Prop) (w:World) (b:Nat) (r:Rd) (P0:List Tok) (bb:Nat) (i:VlI) (B:Nat→Prop) (w1:World):Prop:=
 RI F w b i.r B w1∧LsAt VrAt i.l1 i.xs∧Sy.RowAt 47 3 bb i.l1.length i.xs i.X i.ob∧i.r.blocks=r.blocks∧
  eV (P0.length+1) P0=(eV (i.m+1) i.r.toks).map (fun p=>(i.l1++p.1,p.2))∧i.r.toks.length≤i.m∧i.l1.length+i.r.toks.length≤P0.length
def aVz (x:Th) (w:World) (v:Value) (w':World):Prop:=∃ ds:List Value,v = .agg ds.toArray∧ThAt (dC w w') w' x ds
open Go.Sy in
set_option maxRecDepth 100000 in
theorem aNu (b:Nat) (r:Rd) {F:Nat→Prop} (w:World) (hF:∀ k,F k→k<w.heap.size) (h:RdAt F w b r) (hd:r.blocks=0):Calls Tryz.prog 38 #[nP b] w (Reads F b (fun r'=>r'.blocks=r.blocks) (iY r.toks) aVz w):=by
 have ri0:=RI.init hF h
 refine eN [nP b] Tryz.func38 (fun γ0 hγ0=>?_)
 refine rk ?_
 refine bU (bV _ _) [nP b,nT [116,104,114,101,97,100]] ri0 (by kernel_rfl) (by kernel_rfl) (by kernel_rfl) (by kernel_rfl) (by kernel_rfl) (fun W hF hr hk=>e8 b r [116,104,114,101,97,100] W hF hr) (fun ho W e p he hk => .pan (by simp only [iY];unfold dD at ho;rw [aU] at ho;rw [ho]) e p he hk) ?_
 rintro x1 ts1 r1 ho1 ht1 hn1 W v1 w1 B1 hv1 hkW1 ri1 hk1 hB1 hN1
 unfold dD at ho1
 obtain ⟨us1,hus1,e⟩:=aC ho1
 cases e
 subst hv1
 refine rk ?_
 refine bU (bV _ _) [nP b] ri1 (by kernel_rfl) (by kernel_rfl) (by kernel_rfl) (by kernel_rfl) (by kernel_rfl) (fun W hF hr hk=>nN b r1 W hF hr) (fun ho W e p he hk => .pan (by simp only [iY,hus1];rw [← ht1,ho]) e p he hk) ?_
 rintro x2 ts2 r2 ho2 ht2 hn2 W v2 w2 B2 hv2 hkW2 ri2 hk2 hB2 hN2
 subst hv2
 refine rk ?_
 refine bU (bV _ _) [nP b,nT [123]] ri2 (by kernel_rfl) (by kernel_rfl) (by kernel_rfl) (by kernel_rfl) (by kernel_rfl) (fun W hF hr hk=>e8 b r2 [123] W hF hr) (fun ho W e p he hk => .pan (by simp only [iY,hus1];rw [← ht1,ho2];simp only [];unfold dD at ho;rw [aU,ht2] at ho;rw [ho]) e p he hk) ?_
 rintro x3 ts3 r3 ho3 ht3 hn3 W v3 w3 B3 hv3 hkW3 ri3 hk3 hB3 hN3
 unfold dD at ho3
 rw [ht2] at ho3
 obtain ⟨us3,hus3,e⟩:=aC ho3
 cases e
 subst hv3
 refine rk ?_
 have hbl:r3.blocks=r.blocks:=by rw [hn3.2,hn2.2,hn1.2]
 have hmlO:=ri0.len
 have hln:r3.toks.length≤r.toks.length:=by rw [ht3];have:=b5 hus1;have:=jN ho2;have:=b5 hus3;rw [ht1] at *;omega
 obtain ⟨P0,hP0⟩:∃ P0,P0=r3.toks:=⟨_,rfl⟩
 have hT3:iY r.toks=match eV (P0.length+1) P0 with
   | none=>none
   | some (ls,ys)=>match d5 (4*ys.length+2) 0 ys with
     | none=>none
     | some (b,zs)=>(bX [125] zs).map fun q=>(⟨x2,ls,b⟩,q):=by
  simp only [iY,hus1]
  rw [← ht1,ho2]
  simp only [hus3]
  rw [hP0,ht3]
  cases eV (ts3.length+1) ts3 <;> rfl
 refine cF ?_
 refine fO (fun i:VlI=>i.r.toks.length) (aSd F w b r P0 (gz+2)) (fun i=>⟨mkT [(0,vP b),(2,.ptr gz 0),(3,.ptr (gz+1) 0)],mkH [(gz,bK 56 3 [vT [],vL none 0 0,vL none 0 0]),(gz+1,bK 56 3 [vT x2,i.X,vL none 0 0]),(gz+2,i.ob)],gz+3,[]⟩)
  ⟨r3,[],[],vL none 0 0,none,r3.toks.length⟩ ⟨ri3,rfl,RowAt.nil _ _ _,hbl,by
   show eV (P0.length+1) P0=(eV (r3.toks.length+1) r3.toks).map fun p=>([]++p.1,p.2)
   rw [hP0]
   cases eV (r3.toks.length+1) r3.toks <;> rfl,aH _,by show ([]:List Vr).length+_≤_;rw [hP0];simp⟩ (by kernel_rfl)
  (fun h=>gU _ [(0,vP b),(2,.ptr gz 0),(3,.ptr (gz+1) 0)] [(gz,bK 56 3 [vT [],vL none 0 0,vL none 0 0]),(gz+1,bK 56 3 [vT x2,vL none 0 0,vL none 0 0]),(gz+2,none)] (gz+3) (fun b hb=>hγ0 b (bC (bL _ 3) hb)) h) ?_
 rintro ⟨r0,l1,xk,X,ob,m⟩ B0 w0 ⟨ri0,hxk,hrow,hbb,hspec,hfu,hcnt⟩ ih
 simp only at ri0 hxk hrow hbb hspec hfu hcnt
 have hXlt:lF (gz+3) X=true:=hrow.lt (by omega)
 have hml0:=ri0.len
 have hPl:P0.length≤1000000000:=by rw [hP0];omega
 refine rk ?_
 rcases hT:bX [108,111,99,97,108] r0.toks with _ | ts
 ·
  refine bU (bV _ _) [nP b,nT [108,111,99,97,108]] ri0 (by kernel_rfl) (by kernel_rfl) (by kernel_rfl) (by rcases hrow.2 with ⟨_,h,_⟩ | ⟨_,h⟩ <;> subst h <;> kernel_rfl) (by kernel_rfl) (fun W hF hr hk=>dU b r0 [108,111,99,97,108] hT W hF hr) (fun ho W e p he hk => .pan (by cases ho) e p he hk) ?_
  rintro x1 ts1 r1 ho1 ht1 hn1 W v1 w1 B1 hv1 hkW1 ri1 hk1 hB1 hN1
  cases ho1
  subst hv1
  have hsr:eV (m+1) r0.toks=some ([],r0.toks):=by simp only [eV,hT]
  rw [hsr] at hspec
  have hlo:eV (P0.length+1) P0=some (l1,r1.toks):=by rw [hspec,ht1];simp
  refine rs [] 60 2 ?_
  refine pN (gz+1) 1 (gz+2) 47 3 l1.length hrow (by kernel_rfl) (by kernel_rfl) (by kernel_rfl) (fun xa xcap w2 B2 hk2 hB2 hlt2 hsx=>?_)
  have ri2:RI F w b r1 B2 w2:=ri1.grow hk2 hB2 hlt2
  have hsx_2:SlAt (Nw w B2) w2 xa l1.length 3 xk:=hsx.mono fun k g=>⟨g.1,Nat.le_of_not_lt fun e=>g.2 (ri1.old k e)⟩
  have hd0:r1.blocks=((0:Nat):Int):=by rw [hn1.2,hbb,hd];rfl
  refine rk ?_
  refine bU (bV _ _) [nP b] ri2 (by kernel_rfl) (by kernel_rfl) (by kernel_rfl) (by kernel_rfl) (by kernel_rfl) (fun W hF hr hk=>((aM3 (4*r1.toks.length+2)).2.1) b r1 0 W hF hr hd0 (by omega) (aH _)) (fun ho W e p he hk => .pan (by rw [hT3,hlo];simp only [];rw [ho]) e p he hk) ?_
  rintro x3 ts3 r3 ho3 ht3 hn3 W v3 w3 B3 hv3 hkW3 ri3 hk3 hB3 hN3
  obtain ⟨ba,bc,bx,rfl,hs3,hl3⟩:=hv3
  have hs3_3:SlAt (Nw w B3) w3 ba x3.length 9 bx:=hs3.mono hN3
  have hl3_3:StsAt (Nw w B3) w3 x3 bx:=hl3.keep (.refl _ _) hN3
  have hsx_3:=iQ ri2 hsx_2 hk3 hB3
  refine rk ?_
  refine bU (bV _ _) [nP b,nT [125]] ri3 (by kernel_rfl) (by kernel_rfl) (by kernel_rfl) (by kernel_rfl) (by kernel_rfl) (fun W hF hr hk=>e8 b r3 [125] W hF hr) (fun ho W e p he hk => .pan (by rw [hT3,hlo];simp only [];rw [ho3];simp only [];unfold dD at ho;rw [aU,ht3] at ho;rw [ho];rfl) e p he hk) ?_
  rintro x4 ts4 r4 ho4 ht4 hn4 W v4 w4 B4 hv4 hkW4 ri4 hk4 hB4 hN4
  unfold dD at ho4
  rw [ht3] at ho4
  obtain ⟨vs,hvs,e⟩:=aC ho4
  cases e
  subst hv4
  have hsx_4:=iQ ri3 hsx_3 hk4 hB4
  have hs3_4:=iQ ri3 hs3_3 hk4 hB4
  have hl3_4:=jO ri3 hl3_3 hk4 hB4
  refine rs [] 60 2 ?_
  exact gR (.agg #[nT x2,.slice xa l1.length xcap,.slice ba x3.length bc]) (fun W hk => .ret (r':=r4) (by rw [hT3,hlo];simp only [];rw [ho3];simp only [];rw [hvs,ht4];rfl) (by rw [hn4.2,hn3,hn1.2,hbb]) (⟨_,rfl,xa,xcap,xk,ba,bc,bx,rfl,lR ri4 hsx_4 hk,hxk,lR ri4 hs3_4 hk,mD ri4 hl3_4 hk⟩) (ri4.to hk) (ri4.all hk))
 refine bU (bV _ _) [nP b,nT [108,111,99,97,108]] ri0 (by kernel_rfl) (by kernel_rfl) (by kernel_rfl) (by rcases hrow.2 with ⟨_,h,_⟩ | ⟨_,h⟩ <;> subst h <;> kernel_rfl) (by kernel_rfl) (fun W hF hr hk=>dV b r0 [108,111,99,97,108] hT W hF hr) (fun ho W e p he hk => .pan (by cases ho) e p he hk) ?_
 rintro x1 ts1 r1 ho1 ht1 hn1 W v1 w1 B1 hv1 hkW1 ri1 hk1 hB1 hN1
 cases ho1
 subst hv1
 refine rs [] 60 1 ?_
 have hlen:=b5 hT
 have hsr:eV (m+1) r0.toks=match eJ ts with
   | none=>none
   | some (v,vs)=>(eV m vs).map fun p=>(v::p.1,p.2):=by
  simp only [eV,hT]
  cases eJ ts <;> rfl
 have hXlt2:lF (gz+3) X=true:=hXlt
 refine oS [gz+1] (gz+2) (by kernel_rfl) (fun b hb=>hγ0 b (bC (bL _ 2) hb)) ?_
 intro γ2 B2 w2 hle2 hγ2 hB2 hlt2 hk2 hLk2
 have ri2:RI F w b r1 B2 w2:=ri1.grow hk2 hB2 hlt2
 obtain ⟨lk,hlk,hlk2,hlk1⟩:=hLk2 (gz+1) (by kernel_rfl)
 have hlkb:¬ lk.1=b:=fun e=>hlk1 (e ▸ ri1.old b ri1.hb)
 obtain ⟨Bs,hBs⟩:∃ Bs:Nat→Prop,Bs=fun k=>B2 k∧¬ k=b:=⟨_,rfl⟩
 have hS2:∀ W,Keep B2 w2 W→Keep Bs w2 W:=fun W hk=>hk.mono fun k g=>by rw [hBs] at g;exact g.1
 have h1L:∀ q,b6 q [gz+1]=true→q=gz+1:=fun q hq=>by
  have:=hasNat_iff.1 hq
  rwa [List.mem_singleton] at this
 have hL2:∀ q,b6 q [gz+1]=true→∃ p,γ2 q=some p∧Bs p.1:=fun q hq=>by rw [h1L q hq,hBs];exact ⟨lk,hlk,hlk2,hlkb⟩
 have hLb:∀ q,b6 q [gz+1]=true→∃ p,γ2 q=some p∧¬ p.1=b:=fun q hq=>by rw [h1L q hq];exact ⟨lk,hlk,hlkb⟩
 refine iT (Keep Bs w2) cP (.take 0 (.take 1 (.take 2 (.run 3 (.run 4 (.run 5 (.take 6 .done))))))) 7 (by kernel_rfl) ?_
 refine fI [gz+1] 1 (Bs:=Bs) (ws:=w2) (by kernel_rfl) hS2 hL2 ?_
 refine aCc [gz+1] X (by kernel_rfl) (by rcases hrow.2 with ⟨h,_⟩ | ⟨h,_⟩ <;> subst h <;> kernel_rfl) (Bs:=Bs) (ws:=w2) (by kernel_rfl) hS2 hL2 ?_
 refine fI [gz+1] 1 (Bs:=Bs) (ws:=w2) (by kernel_rfl) hS2 hL2 ?_
 refine pR (Keep Bs w2) hS2 ?_
 refine l6 [gz+1] (bV _ _) [nP b] ri2 (by kernel_rfl) (by kernel_rfl) (by kernel_rfl) (by rcases hrow.2 with ⟨_,h,_⟩ | ⟨_,h⟩ <;> subst h <;> kernel_rfl) hLb (by kernel_rfl) (fun W hF hr hk=>zY b r1 W hF hr) (fun ho W e p he hk => .pan (by rw [hT3,hspec,hsr,← ht1,ho];rfl) e p he hk) ?_
 rintro x4 ts4 r4 ho4 ht4 hn4 W4 v4 w4 B4 hv4 hkW4 ri4 hk4 hB4 hN4
 obtain ⟨vn4,vt4,vb4⟩:=x4
 obtain ⟨ds4,rfl,hv4⟩:=hv4
 obtain rfl:ds4=_:=hv4
 have hv4:VrAt ⟨vn4,vt4,vb4⟩ _:=rfl
 have hS4:∀ W,Keep B4 w4 W→Keep Bs w2 W:=fun W hk=>(hk4.mono fun k g=>by rw [hBs] at g;exact g).trans (hk.mono fun k g=>by rw [hBs] at g;exact hB4 k g.1)
 refine rk ?_
 refine pR (Keep Bs w2) hS4 ?_
 refine rk ?_
 refine pR (Keep Bs w2) hS4 ?_
 refine pL (gz+1) 1 (by kernel_rfl) (fun xold=>?_)
 have hcl:l1.length+1≤1000000000:=by omega
 refine nM (t:=23) (e:=47) (.slg (gz+3) 0 1 3) 3 32 (gz+2) l1.length 0 xk X ob [nT vn4,n8 vt4,n6 vb4] [14] (by kernel_rfl) (by kernel_rfl) (by kernel_rfl) (by kernel_rfl) hrow (by kernel_rfl) (by kernel_rfl) (by kernel_rfl)
  (by unfold maxLen;omega) (by omega) (hγ2 (gz+2) (aH _)) (by kernel_rfl) (by kernel_rfl) (by kernel_rfl) (by kernel_rfl) (by kernel_rfl) (fun X' ob' hrow'=>?_)
 rcases hrow'.2 with ⟨_,_,h0⟩ | ⟨rfl,rfl⟩
 · omega
 refine rk ?_
 refine fI [gz+1] 1 (Bs:=Bs) (ws:=w2) (by kernel_rfl) hS4 hL2 ?_
 refine lO (by kernel_rfl) ?_ (Keep Bs w2) (by kernel_rfl) hS4
 refine lL [gz+1] (by kernel_rfl) (fun q hq=>by rw [h1L q hq];exact ⟨lk,hlk⟩) ?_
 intro B6 h64 h46
 have hq6:∀ k,B4 k→¬ k=lk.1→B6 k:=fun k g1 g2=>h46 k g1 (fun q p hq hp e=>g2 (by
  rw [h1L q hq,hlk] at hp
  injection hp with hp
  rw [hp,e]))
 have h16:∀ k,B1 k→B6 k:=fun k g=>hq6 k (hB4 k (hB2 k g)) (fun e=>hlk1 (e ▸ g))
 have ri6:RI F w b r4 B6 w4:=⟨ri4.rd,ri4.keep,fun k g=>h16 k (ri1.old k g),fun k g=>ri4.lt k (h64 k g),ri4.hF,ri4.hb⟩
 refine rs [] 60 2 ?_
 rw [ht1] at ho4
 have hvl:=zM ho4
 obtain ⟨m1,hm1⟩:∃ m1,m=m1+1:=⟨m - 1,by omega⟩
 have hI:aSd F w b r P0 (gz+2) ⟨r4,l1++[(⟨vn4,vt4,vb4⟩:Vr)],xk++[nT vn4,n8 vt4,n6 vb4],.slg (gz+2) 0 (l1.length+(0+1)) 3,some (.row 47 (xk++[nT vn4,n8 vt4,n6 vb4])),m1⟩ B6 w4:=by
  refine ⟨ri6,LsAt.snoc hxk hv4,?_,by show r4.blocks=_;rw [hn4.2,hn1.2,hbb],?_,by show r4.toks.length≤m1;rw [ht4];omega,by show (l1++[(⟨vn4,vt4,vb4⟩:Vr)]).length+r4.toks.length≤P0.length;rw [aA,ht4,List.length_singleton];omega⟩
  · show RowAt _ 3 (gz+2) (l1++[_]).length _ _ _
    rw [aA]
    exact hrow'
  · show _=(eV (m1+1) r4.toks).map fun p=>((l1++[(⟨vn4,vt4,vb4⟩:Vr)])++p.1,p.2)
    rw [hspec,hsr,ho4,ht4,← hm1]
    simp only []
    cases eV m ts4 <;> simp
 exact gU _ [(0,vP b),(2,.ptr gz 0),(3,.ptr (gz+1) 0)] [(gz,bK 56 3 [vT [],vL none 0 0,vL none 0 0]),(gz+1,bK 56 3 [vT x2,.slg (gz+2) 0 (l1.length+(0+1)) 3,vL none 0 0]),(gz+2,some (.row 47 (xk++[nT vn4,n8 vt4,n6 vb4])))] (gz+3) (fun b hb=>hγ2 b (bC (Nat.le_succ _) hb)) ((ih _ B6 w4 hI (by show r4.toks.length<r0.toks.length;rw [ht4];omega)).up hle2)
end
section
def aVy (p:Pg) (w:World) (v:Value) (w':World):Prop:=∃ ds:List Value,v = .agg ds.toArray∧PgAt (dC w w') w' p ds
end
section
structure DcI where
 r:Rd
 l1:List Vr
 xs:List Value
 X:Sy.AV
 ob:Option Sy.Blk
 l2:List (List UInt8)
 ys:List Value
 X2:Sy.AV
 ob2:Option Sy.Blk
 m:Nat
def aLc (F:Nat→Prop) (w:World) (b:Nat) (P0:List Tok) (bb b2:Nat) (i:DcI) (B:Nat→Prop) (w1:World):Prop:=
 RI F w b i.r B w1∧LsAt VrAt i.l1 i.xs∧Sy.RowAt 47 3 bb i.l1.length i.xs i.X i.ob∧LsAt TxAt i.l2 i.ys∧Sy.RowAt 9 1 b2 i.l2.length i.ys i.X2 i.ob2∧i.r.blocks=0∧
  dZ (P0.length+1) P0=(dZ (i.m+1) i.r.toks).map (fun p=>((i.l1++p.1.1,i.l2++p.1.2),p.2))∧i.r.toks.length≤i.m∧i.l1.length+i.l2.length+i.r.toks.length≤P0.length
structure ThI where
 r:Rd
 l1:List Th
 xs:List Value
 X:Sy.AV
 ob:Option Sy.Blk
 m:Nat
def aR7 (F:Nat→Prop) (w:World) (b:Nat) (P1:List Tok) (bb:Nat) (sa:Option Addr) (sn:Nat) (sx:List Value) (ma:Option Addr) (mn:Nat) (mx:List Value) (i:ThI) (B:Nat→Prop) (w1:World):Prop:=
 RI F w b i.r B w1∧LsAt (ThAt (Nw w B) w1) i.l1 i.xs∧Sy.RowAt 56 3 bb i.l1.length i.xs i.X i.ob∧Sy.SlAt (Nw w B) w1 sa sn 3 sx∧Sy.SlAt (Nw w B) w1 ma mn 1 mx∧i.r.blocks=0∧
  eZ (P1.length+1) P1=(eZ (i.m+1) i.r.toks).map (fun p=>(i.l1++p.1,p.2))∧i.r.toks.length≤i.m∧i.l1.length+i.r.toks.length≤P1.length
open Go.Sy in
set_option maxRecDepth 100000 in
theorem aMc (b:Nat) (r:Rd) {F:Nat→Prop} (w:World) (hF:∀ k,F k→k<w.heap.size) (h:RdAt F w b r) (hd:r.blocks=0):Calls Tryz.prog 15 #[nP b] w (Reads F b (fun _=>True) (pgK r.toks) aVy w):=by
 have ri0:=RI.init hF h
 refine eN [nP b] Tryz.func15 (fun γ0 hγ0=>?_)
 refine rk ?_
 have hmlO:=ri0.len
 obtain ⟨P0,hP0⟩:∃ P0,P0=r.toks:=⟨_,rfl⟩
 have hPl:P0.length≤1000000000:=by rw [hP0];exact hmlO
 have hT3:pgK r.toks=match dZ (P0.length+1) P0 with
   | none=>none
   | some (d,us)=>(eZ (us.length+1) us).map fun p=>(⟨d.1,d.2,p.1⟩,p.2):=by
  simp only [pgK]
  rw [hP0]
  cases dZ (r.toks.length+1) r.toks <;> rfl
 refine cF ?_
 refine fO (fun i:DcI=>i.r.toks.length) (aLc F w b P0 (gz+2) (gz+3)) (fun i=>⟨mkT [(0,vP b),(2,.ptr gz 0),(3,.ptr (gz+1) 0)],mkH [(gz,bK 27 3 [vL none 0 0,vL none 0 0,vL none 0 0]),(gz+1,bK 27 3 [i.X,i.X2,vL none 0 0]),(gz+2,i.ob),(gz+3,i.ob2)],gz+4,[]⟩)
  ⟨r,[],[],vL none 0 0,none,[],[],vL none 0 0,none,r.toks.length⟩ ⟨ri0,rfl,RowAt.nil _ _ _,rfl,RowAt.nil _ _ _,hd,by
   show dZ (P0.length+1) P0=(dZ (r.toks.length+1) r.toks).map fun p=>(([]++p.1.1,[]++p.1.2),p.2)
   rw [hP0]
   cases dZ (r.toks.length+1) r.toks <;> rfl,aH _,by show ([]:List Vr).length+([]:List (List UInt8)).length+_≤_;rw [hP0];simp⟩ (by kernel_rfl)
  (fun h=>gU _ [(0,vP b),(2,.ptr gz 0),(3,.ptr (gz+1) 0)] [(gz,bK 27 3 [vL none 0 0,vL none 0 0,vL none 0 0]),(gz+1,bK 27 3 [vL none 0 0,vL none 0 0,vL none 0 0]),(gz+2,none),(gz+3,none)] (gz+4) (fun b hb=>hγ0 b (bC (bL _ 4) hb)) h) ?_
 rintro ⟨r0,l1,xk,X,ob,l2,yk,X2,ob2,m⟩ B0 w0 ⟨ri0,hxk,hrow,hyk,hrow2,hbb,hspec,hfu,hcnt⟩ ih
 simp only at ri0 hxk hrow hyk hrow2 hbb hspec hfu hcnt
 refine rk ?_
 rcases hSh:bX [115,104,97,114,101,100] r0.toks with _ | us
 rotate_left
 ·
  refine bU (bV _ _) [nP b,nT [115,104,97,114,101,100]] ri0 (by kernel_rfl) (by kernel_rfl) (by kernel_rfl) (by rcases hrow.2 with ⟨h,h2,_⟩ | ⟨h,h2⟩ <;> subst h h2 <;> rcases hrow2.2 with ⟨h,h2,_⟩ | ⟨h,h2⟩ <;> subst h h2 <;> kernel_rfl) (by kernel_rfl) (fun W hF hr hk=>dV b r0 [115,104,97,114,101,100] hSh W hF hr) (fun ho W e p he hk => .pan (by cases ho) e p he hk) ?_
  rintro x1 ts1 r1 ho1 ht1 hn1 W v1 w1 B1 hv1 hkW1 ri1 hk1 hB1 hN1
  cases ho1
  subst hv1
  refine rs [] 60 1 ?_
  have hlen:=b5 hSh
  have hsr:dZ (m+1) r0.toks=match eJ us with
    | none=>none
    | some (v,vs)=>(dZ m vs).map fun p=>((v::p.1.1,p.1.2),p.2):=by
   simp only [dZ,hSh]
   cases eJ us <;> rfl
  refine oS [gz+1] (gz+2) (by kernel_rfl) (fun b hb=>hγ0 b (bC (bL _ 2) hb)) ?_
  intro γL BL wL hleL hγL hBL hltL hkL hLkL
  have riL:RI F w b r1 BL wL:=ri1.grow hkL hBL hltL
  obtain ⟨lk,hlk,hlk2,hlk1⟩:=hLkL (gz+1) (by kernel_rfl)
  have hlkb:¬ lk.1=b:=fun e=>hlk1 (e ▸ ri1.old b ri1.hb)
  obtain ⟨Bs,hBs⟩:∃ Bs:Nat→Prop,Bs=fun k=>BL k∧¬ k=b:=⟨_,rfl⟩
  have hS2:∀ W,Keep BL wL W→Keep Bs wL W:=fun W hk=>hk.mono fun k g=>by rw [hBs] at g;exact g.1
  have h1L:∀ q,b6 q [gz+1]=true→q=gz+1:=fun q hq=>by
   have:=hasNat_iff.1 hq
   rwa [List.mem_singleton] at this
  have hL2:∀ q,b6 q [gz+1]=true→∃ p,γL q=some p∧Bs p.1:=fun q hq=>by rw [h1L q hq,hBs];exact ⟨lk,hlk,hlk2,hlkb⟩
  have hLb:∀ q,b6 q [gz+1]=true→∃ p,γL q=some p∧¬ p.1=b:=fun q hq=>by rw [h1L q hq];exact ⟨lk,hlk,hlkb⟩
  refine iT (Keep Bs wL) cP (.take 0 (.take 1 (.take 2 (.run 3 (.run 4 (.run 5 (.take 6 .done))))))) 7 (by kernel_rfl) ?_
  refine fI [gz+1] 1 (Bs:=Bs) (ws:=wL) (by kernel_rfl) hS2 hL2 ?_
  refine aCc [gz+1] X (by kernel_rfl) (by rcases hrow.2 with ⟨h,h2,_⟩ | ⟨h,h2⟩ <;> subst h h2 <;> kernel_rfl) (Bs:=Bs) (ws:=wL) (by kernel_rfl) hS2 hL2 ?_
  refine fI [gz+1] 1 (Bs:=Bs) (ws:=wL) (by kernel_rfl) hS2 hL2 ?_
  refine pR (Keep Bs wL) hS2 ?_
  refine l6 [gz+1] (bV _ _) [nP b] riL (by kernel_rfl) (by kernel_rfl) (by kernel_rfl) (by rcases hrow.2 with ⟨h,h2,_⟩ | ⟨h,h2⟩ <;> subst h h2 <;> rcases hrow2.2 with ⟨h,h2,_⟩ | ⟨h,h2⟩ <;> subst h h2 <;> kernel_rfl) hLb (by kernel_rfl) (fun W hF hr hk=>zY b r1 W hF hr) (fun ho W e p he hk => .pan (by rw [hT3,hspec,hsr,← ht1,ho];rfl) e p he hk) ?_
  rintro x4 ts4 r4 ho4 ht4 hn4 W4 v4 w4 B4 hv4 hkW4 ri4 hk4 hB4 hN4
  obtain ⟨vn4,vt4,vb4⟩:=x4
  obtain ⟨ds4,rfl,hv4⟩:=hv4
  obtain rfl:ds4=_:=hv4
  have hv4:VrAt ⟨vn4,vt4,vb4⟩ _:=rfl
  have hS4:∀ W,Keep B4 w4 W→Keep Bs wL W:=fun W hk=>(hk4.mono fun k g=>by rw [hBs] at g;exact g).trans (hk.mono fun k g=>by rw [hBs] at g;exact hB4 k g.1)
  refine rk ?_
  refine pR (Keep Bs wL) hS4 ?_
  refine rk ?_
  refine pR (Keep Bs wL) hS4 ?_
  refine pL (gz+1) 0 (by kernel_rfl) (fun xold=>?_)
  have hcl:l1.length+1≤1000000000:=by omega
  refine nM (t:=23) (e:=47) (.slg (gz+4) 0 1 3) 3 32 (gz+2) l1.length 0 xk X ob [nT vn4,n8 vt4,n6 vb4] [7] (by kernel_rfl) (by kernel_rfl) (by kernel_rfl) (by kernel_rfl) hrow (by kernel_rfl) (by kernel_rfl) (by kernel_rfl)
   (by unfold maxLen;omega) (by omega) (hγL (gz+2) (bL (gz+2) 0)) (by kernel_rfl) (by kernel_rfl) (by kernel_rfl) (by kernel_rfl) (by rcases hrow2.2 with ⟨h,h2,_⟩ | ⟨h,h2⟩ <;> subst h h2 <;> kernel_rfl) (fun X' ob' hrow'=>?_)
  rcases hrow'.2 with ⟨_,_,h0⟩ | ⟨rfl,rfl⟩
  · omega
  refine rk ?_
  refine fI [gz+1] 1 (Bs:=Bs) (ws:=wL) (by kernel_rfl) hS4 hL2 ?_
  refine lO (by kernel_rfl) ?_ (Keep Bs wL) (by kernel_rfl) hS4
  refine lL [gz+1] (by kernel_rfl) (fun q hq=>by rw [h1L q hq];exact ⟨lk,hlk⟩) ?_
  intro B6 h64 h46
  have hq6:∀ k,B4 k→¬ k=lk.1→B6 k:=fun k g1 g2=>h46 k g1 (fun q p hq hp e=>g2 (by
   rw [h1L q hq,hlk] at hp
   injection hp with hp
   rw [hp,e]))
  have h16:∀ k,B1 k→B6 k:=fun k g=>hq6 k (hB4 k (hBL k g)) (fun e=>hlk1 (e ▸ g))
  have ri6:RI F w b r4 B6 w4:=⟨ri4.rd,ri4.keep,fun k g=>h16 k (ri1.old k g),fun k g=>ri4.lt k (h64 k g),ri4.hF,ri4.hb⟩
  have hlw:lk.1<W4.heap.size:=aE (hltL _ hlk2) hkW4.size
  have hN6:∀ k,dC W4 w4 k→Nw w B6 k:=fun k g=>⟨hq6 k (hN4 k g).1 (fun e=>by have:=g.1;omega),(hN4 k g).2⟩
  have hk16:Keep (fun k=>B1 k∧¬ k=b) w1 w4:=(hkL.mono fun k g=>g.1).trans (hk4.mono fun k g=>⟨hBL k g.1,g.2⟩)
  refine rs [] 60 2 ?_
  rw [ht1] at ho4
  have hvl:=zM ho4
  obtain ⟨m1,hm1⟩:∃ m1,m=m1+1:=⟨m - 1,by omega⟩
  have hI:aLc F w b P0 (gz+2) (gz+3) ⟨r4,l1++[(⟨vn4,vt4,vb4⟩:Vr)],xk++[nT vn4,n8 vt4,n6 vb4],.slg (gz+2) 0 (l1.length+(0+1)) 3,some (.row 47 (xk++[nT vn4,n8 vt4,n6 vb4])),l2,yk,X2,ob2,m1⟩ B6 w4:=by
   refine ⟨ri6,LsAt.snoc hxk hv4,?_,hyk,hrow2,by show r4.blocks=0;rw [hn4.2,hn1.2,hbb],?_,by show r4.toks.length≤m1;rw [ht4];omega,by show (l1++[(⟨vn4,vt4,vb4⟩:Vr)]).length+l2.length+r4.toks.length≤P0.length;rw [aA,ht4,List.length_singleton];omega⟩
   · show RowAt _ 3 (gz+2) (l1++[_]).length _ _ _
     rw [aA]
     exact hrow'
   · show _=(dZ (m1+1) r4.toks).map fun p=>(((l1++[(⟨vn4,vt4,vb4⟩:Vr)])++p.1.1,l2++p.1.2),p.2)
     rw [hspec,hsr,ho4,ht4,← hm1]
     simp only []
     cases dZ m ts4 <;> simp
  exact vC _ [(0,vP b),(2,.ptr gz 0),(3,.ptr (gz+1) 0)] [(gz,bK 27 3 [vL none 0 0,vL none 0 0,vL none 0 0]),(gz+1,bK 27 3 [.slg (gz+2) 0 (l1.length+(0+1)) 3,X2,vL none 0 0]),(gz+2,some (.row 47 (xk++[nT vn4,n8 vt4,n6 vb4]))),(gz+3,ob2)] (gz+4) (by kernel_rfl) (by kernel_rfl) (by kernel_rfl) (by kernel_rfl) (by kernel_rfl) (by rcases hrow2.2 with ⟨h,h2,_⟩ | ⟨h,h2⟩ <;> subst h h2 <;> kernel_rfl) (fun b hb=>hγL b (bC (bL (gz+2) 2) hb)) (by kernel_rfl) ((ih _ B6 w4 hI (by show r4.toks.length<r0.toks.length;rw [ht4];omega)).up hleL)
 refine bU (bV _ _) [nP b,nT [115,104,97,114,101,100]] ri0 (by kernel_rfl) (by kernel_rfl) (by kernel_rfl) (by rcases hrow.2 with ⟨h,h2,_⟩ | ⟨h,h2⟩ <;> subst h h2 <;> rcases hrow2.2 with ⟨h,h2,_⟩ | ⟨h,h2⟩ <;> subst h h2 <;> kernel_rfl) (by kernel_rfl) (fun W hF hr hk=>dU b r0 [115,104,97,114,101,100] hSh W hF hr) (fun ho W e p he hk => .pan (by cases ho) e p he hk) ?_
 rintro x1 ts1 r1 ho1 ht1 hn1 W v1 w1 B1 hv1 hkW1 ri1 hk1 hB1 hN1
 cases ho1
 subst hv1
 refine rs [] 60 1 ?_
 rcases hMx:bX [109,117,116,101,120] r0.toks with _ | us
 rotate_left
 ·
  refine bU (bV _ _) [nP b,nT [109,117,116,101,120]] ri1 (by kernel_rfl) (by kernel_rfl) (by kernel_rfl) (by rcases hrow.2 with ⟨h,h2,_⟩ | ⟨h,h2⟩ <;> subst h h2 <;> rcases hrow2.2 with ⟨h,h2,_⟩ | ⟨h,h2⟩ <;> subst h h2 <;> kernel_rfl) (by kernel_rfl) (fun W hF hr hk=>dV b r1 [109,117,116,101,120] (ht1 ▸ hMx) W hF hr) (fun ho W e p he hk => .pan (by cases ho) e p he hk) ?_
  rintro x2 ts2 r2 ho2 ht2 hn2 W v2 w2 B2 hv2 hkW2 ri2 hk2 hB2 hN2
  cases ho2
  subst hv2
  refine rs [] 60 1 ?_
  have hlen:=b5 hMx
  have hsr:dZ (m+1) r0.toks=match eB us with
    | none=>none
    | some (x,vs)=>match bX [59] vs with
      | none=>none
      | some xs=>(dZ m xs).map fun p=>((p.1.1,x::p.1.2),p.2):=by
   simp only [dZ,hSh,hMx]
   cases eB us <;> rfl
  refine oS [gz+1] (gz+2) (by kernel_rfl) (fun b hb=>hγ0 b (bC (bL _ 2) hb)) ?_
  intro γL BL wL hleL hγL hBL hltL hkL hLkL
  have riL:RI F w b r2 BL wL:=ri2.grow hkL hBL hltL
  obtain ⟨lk,hlk,hlk2,hlk1⟩:=hLkL (gz+1) (by kernel_rfl)
  have hlkb:¬ lk.1=b:=fun e=>hlk1 (e ▸ ri2.old b ri2.hb)
  obtain ⟨Bs,hBs⟩:∃ Bs:Nat→Prop,Bs=fun k=>BL k∧¬ k=b:=⟨_,rfl⟩
  have hS2:∀ W,Keep BL wL W→Keep Bs wL W:=fun W hk=>hk.mono fun k g=>by rw [hBs] at g;exact g.1
  have h1L:∀ q,b6 q [gz+1]=true→q=gz+1:=fun q hq=>by
   have:=hasNat_iff.1 hq
   rwa [List.mem_singleton] at this
  have hL2:∀ q,b6 q [gz+1]=true→∃ p,γL q=some p∧Bs p.1:=fun q hq=>by rw [h1L q hq,hBs];exact ⟨lk,hlk,hlk2,hlkb⟩
  have hLb:∀ q,b6 q [gz+1]=true→∃ p,γL q=some p∧¬ p.1=b:=fun q hq=>by rw [h1L q hq];exact ⟨lk,hlk,hlkb⟩
  refine iT (Keep Bs wL) cP (.take 0 (.take 1 (.take 2 (.run 3 (.run 4 (.run 5 (.take 6 .done))))))) 7 (by kernel_rfl) ?_
  refine fI [gz+1] 1 (Bs:=Bs) (ws:=wL) (by kernel_rfl) hS2 hL2 ?_
  refine aCc [gz+1] X2 (by kernel_rfl) (by rcases hrow2.2 with ⟨h,h2,_⟩ | ⟨h,h2⟩ <;> subst h h2 <;> kernel_rfl) (Bs:=Bs) (ws:=wL) (by kernel_rfl) hS2 hL2 ?_
  refine fI [gz+1] 1 (Bs:=Bs) (ws:=wL) (by kernel_rfl) hS2 hL2 ?_
  refine pR (Keep Bs wL) hS2 ?_
  refine l6 [gz+1] (bV _ _) [nP b] riL (by kernel_rfl) (by kernel_rfl) (by kernel_rfl) (by rcases hrow2.2 with ⟨h,h2,_⟩ | ⟨h,h2⟩ <;> subst h h2 <;> rcases hrow.2 with ⟨h,h2,_⟩ | ⟨h,h2⟩ <;> subst h h2 <;> kernel_rfl) hLb (by kernel_rfl) (fun W hF hr hk=>nN b r2 W hF hr) (fun ho W e p he hk => .pan (by rw [hT3,hspec,hsr,← ht2,ho];rfl) e p he hk) ?_
  rintro x4 ts4 r4 ho4 ht4 hn4 W4 v4 w4 B4 hv4 hkW4 ri4 hk4 hB4 hN4
  obtain rfl:=hv4
  have hS4:∀ W,Keep B4 w4 W→Keep Bs wL W:=fun W hk=>(hk4.mono fun k g=>by rw [hBs] at g;exact g).trans (hk.mono fun k g=>by rw [hBs] at g;exact hB4 k g.1)
  refine rk ?_
  refine pR (Keep Bs wL) hS4 ?_
  refine rk ?_
  refine pR (Keep Bs wL) hS4 ?_
  refine pL (gz+1) 1 (by kernel_rfl) (fun xold=>?_)
  have hcl:l2.length+1≤1000000000:=by omega
  refine nM (t:=24) (e:=9) (.slg (gz+4) 0 1 1) 1 16 (gz+3) l2.length 0 yk X2 ob2 [nT x4] [17] (by kernel_rfl) (by kernel_rfl) (by kernel_rfl) (by kernel_rfl) hrow2 (by kernel_rfl) (by kernel_rfl) (by kernel_rfl)
   (by unfold maxLen;omega) (by omega) (hγL (gz+3) (bL (gz+2) 1)) (by kernel_rfl) (by kernel_rfl) (by kernel_rfl) (by kernel_rfl) (by rcases hrow.2 with ⟨h,h2,_⟩ | ⟨h,h2⟩ <;> subst h h2 <;> kernel_rfl) (fun X' ob' hrow'=>?_)
  rcases hrow'.2 with ⟨_,_,h0⟩ | ⟨rfl,rfl⟩
  · omega
  refine rk ?_
  refine fI [gz+1] 1 (Bs:=Bs) (ws:=wL) (by kernel_rfl) hS4 hL2 ?_
  refine lO (by kernel_rfl) ?_ (Keep Bs wL) (by kernel_rfl) hS4
  refine lL [gz+1] (by kernel_rfl) (fun q hq=>by rw [h1L q hq];exact ⟨lk,hlk⟩) ?_
  intro B6 h64 h46
  have hq6:∀ k,B4 k→¬ k=lk.1→B6 k:=fun k g1 g2=>h46 k g1 (fun q p hq hp e=>g2 (by
   rw [h1L q hq,hlk] at hp
   injection hp with hp
   rw [hp,e]))
  have h16:∀ k,B2 k→B6 k:=fun k g=>hq6 k (hB4 k (hBL k g)) (fun e=>hlk1 (e ▸ g))
  have ri6:RI F w b r4 B6 w4:=⟨ri4.rd,ri4.keep,fun k g=>h16 k (ri2.old k g),fun k g=>ri4.lt k (h64 k g),ri4.hF,ri4.hb⟩
  have hlw:lk.1<W4.heap.size:=aE (hltL _ hlk2) hkW4.size
  have hN6:∀ k,dC W4 w4 k→Nw w B6 k:=fun k g=>⟨hq6 k (hN4 k g).1 (fun e=>by have:=g.1;omega),(hN4 k g).2⟩
  have hk16:Keep (fun k=>B2 k∧¬ k=b) w2 w4:=(hkL.mono fun k g=>g.1).trans (hk4.mono fun k g=>⟨hBL k g.1,g.2⟩)
  refine rk ?_
  have ri4o:=ri4
  clear ri4
  have ri4:=ri6
  rw [ht2] at ho4
  have hnl:=jN ho4
  refine bU (bV _ _) [nP b,nT [59]] ri4 (by kernel_rfl) (by kernel_rfl) (by kernel_rfl) (by rcases hrow.2 with ⟨h,h2,_⟩ | ⟨h,h2⟩ <;> subst h h2 <;> kernel_rfl) (by kernel_rfl) (fun W hF hr hk=>e8 b r4 [59] W hF hr) (fun ho W e p he hk => .pan (by rw [hT3,hspec,hsr,ho4];simp only [];unfold dD at ho;rw [aU,ht4] at ho;rw [ho];rfl) e p he hk) ?_
  rintro x5 ts5 r5 ho5 ht5 hn5 W v5 w5 B5 hv5 hkW5 ri5 hk5 hB5 hN5
  unfold dD at ho5
  rw [ht4] at ho5
  obtain ⟨vs,hvs,e⟩:=aC ho5
  cases e
  subst hv5
  refine rs [] 60 2 ?_
  have hvl:=b5 hvs
  obtain ⟨m1,hm1⟩:∃ m1,m=m1+1:=⟨m - 1,by omega⟩
  have hI:aLc F w b P0 (gz+2) (gz+3) ⟨r5,l1,xk,X,ob,l2++[x4],yk++[nT x4],.slg (gz+3) 0 (l2.length+(0+1)) 1,some (.row 9 (yk++[nT x4])),m1⟩ B5 w5:=by
   refine ⟨ri5,hxk,hrow,LsAt.snoc hyk rfl,?_,by show r5.blocks=0;rw [hn5.2,hn4.2,hn2.2,hn1.2,hbb],?_,by show r5.toks.length≤m1;rw [ht5];omega,by show l1.length+(l2++[x4]).length+r5.toks.length≤P0.length;rw [aA,ht5,List.length_singleton];omega⟩
   · show RowAt _ 1 (gz+3) (l2++[_]).length _ _ _
     rw [aA]
     exact hrow'
   · show _=(dZ (m1+1) r5.toks).map fun p=>((l1++p.1.1,(l2++[x4])++p.1.2),p.2)
     rw [hspec,hsr,ho4]
     simp only [hvs]
     rw [ht5,← hm1]
     cases dZ m ts5 <;> simp
  exact vC _ [(0,vP b),(2,.ptr gz 0),(3,.ptr (gz+1) 0)] [(gz,bK 27 3 [vL none 0 0,vL none 0 0,vL none 0 0]),(gz+1,bK 27 3 [X,.slg (gz+3) 0 (l2.length+(0+1)) 1,vL none 0 0]),(gz+2,ob),(gz+3,some (.row 9 (yk++[nT x4])))] (gz+4) (by kernel_rfl) (by kernel_rfl) (by kernel_rfl) (by kernel_rfl) (by kernel_rfl) (by rcases hrow.2 with ⟨h,h2,_⟩ | ⟨h,h2⟩ <;> subst h h2 <;> kernel_rfl) (fun b hb=>hγL b (bC (bL (gz+2) 2) hb)) (by kernel_rfl) ((ih _ B5 w5 hI (by show r5.toks.length<r0.toks.length;rw [ht5];omega)).up hleL)
 refine bU (bV _ _) [nP b,nT [109,117,116,101,120]] ri1 (by kernel_rfl) (by kernel_rfl) (by kernel_rfl) (by rcases hrow.2 with ⟨h,h2,_⟩ | ⟨h,h2⟩ <;> subst h h2 <;> rcases hrow2.2 with ⟨h,h2,_⟩ | ⟨h,h2⟩ <;> subst h h2 <;> kernel_rfl) (by kernel_rfl) (fun W hF hr hk=>dU b r1 [109,117,116,101,120] (ht1 ▸ hMx) W hF hr) (fun ho W e p he hk => .pan (by cases ho) e p he hk) ?_
 rintro x2 ts2 r2 ho2 ht2 hn2 W v2 w2 B2 hv2 hkW2 ri2 hk2 hB2 hN2
 cases ho2
 subst hv2
 rw [ht1] at ht2
 have hsr:dZ (m+1) r0.toks=some (([],[]),r0.toks):=by simp only [dZ,hSh,hMx]
 rw [hsr] at hspec
 have hlo:dZ (P0.length+1) P0=some ((l1,l2),r2.toks):=by rw [hspec,ht2];simp
 have hT4:pgK r.toks=(eZ (r2.toks.length+1) r2.toks).map fun p=>(⟨l1,l2,p.1⟩,p.2):=by rw [hT3,hlo]
 refine rs [] 3 1 ?_
 refine pN (gz+1) 0 (gz+2) 47 3 l1.length hrow (by kernel_rfl) (by kernel_rfl) (by kernel_rfl) (fun sa scap w3 B3 hk3 hB3 hlt3 hsa=>?_)
 have ri3:RI F w b r2 B3 w3:=ri2.grow hk3 hB3 hlt3
 have hsa_3:SlAt (Nw w B3) w3 sa l1.length 3 xk:=hsa.mono fun k g=>⟨g.1,Nat.le_of_not_lt fun e=>g.2 (ri2.old k e)⟩
 refine pN (gz+1) 1 (gz+3) 9 1 l2.length hrow2 (by kernel_rfl) (by kernel_rfl) (by kernel_rfl) (fun ma mcap w4 B4 hk4 hB4 hlt4 hma=>?_)
 have ri4:RI F w b r2 B4 w4:=ri3.grow hk4 hB4 hlt4
 have hma_4:SlAt (Nw w B4) w4 ma l2.length 1 yk:=hma.mono fun k g=>⟨g.1,Nat.le_of_not_lt fun e=>g.2 (ri3.old k e)⟩
 have hsa_4:SlAt (Nw w B4) w4 sa l1.length 3 xk:=(hsa_3.keep (hk4.mono fun k g=>g.1)).mono fun k g=>⟨hB4 k g.1,g.2⟩
 refine rs [] 60 2 ?_
 clear ih hrow hrow2
 obtain ⟨P1,hP1⟩:∃ P1,P1=r2.toks:=⟨_,rfl⟩
 have hP1l:P1.length≤1000000000:=by rw [hP1];exact ri2.len
 refine cF ?_
 refine fO (fun i:ThI=>i.r.toks.length) (aR7 F w b P1 (gz+2) sa l1.length xk ma l2.length yk) (fun i=>⟨mkT [(0,vP b),(2,.ptr gz 0),(3,.ptr (gz+1) 0)],mkH [(gz,bK 27 3 [vL none 0 0,vL none 0 0,vL none 0 0]),(gz+1,bK 27 3 [vL sa l1.length scap,vL ma l2.length mcap,i.X]),(gz+2,i.ob)],gz+3,[]⟩)
  ⟨r2,[],[],vL none 0 0,none,r2.toks.length⟩ ⟨ri4,rfl,RowAt.nil _ _ _,hsa_4,hma_4,by show r2.blocks=0;rw [hn2.2,hn1.2,hbb],by
   show eZ (P1.length+1) P1=(eZ (r2.toks.length+1) r2.toks).map fun p=>([]++p.1,p.2)
   rw [hP1]
   cases eZ (r2.toks.length+1) r2.toks <;> rfl,aH _,by show ([]:List Th).length+_≤_;rw [hP1];simp⟩ (by kernel_rfl)
  (fun h=>gU _ [(0,vP b),(2,.ptr gz 0),(3,.ptr (gz+1) 0)] [(gz,bK 27 3 [vL none 0 0,vL none 0 0,vL none 0 0]),(gz+1,bK 27 3 [vL sa l1.length scap,vL ma l2.length mcap,vL none 0 0]),(gz+2,none)] (gz+3) (fun b hb=>hγ0 b (bC (bL _ 3) hb)) h) ?_
 rintro ⟨r0,l3,zk,X,ob,m⟩ B0 w0 ⟨ri0,hzk,hrow,hsa_0,hma_0,hbb,hspec,hfu,hcnt⟩ ih
 simp only at ri0 hzk hrow hbb hspec hfu hcnt
 rw [← hP1] at hT4
 obtain ⟨a,nn,cap,xs,hbk,hnr,hncap,hnb,hsl,hls,hFb,htb⟩:=ri0.rd
 have hat:=mH (F:=B0) hbk (ri0.old b ri0.hb) rfl
 refine rk ?_
 refine gV (.slice a nn cap) (S:=Instr.loadAt 36 (.pointer (some ⟨b,0+0,none⟩))) (fun W hk=>ldB hat (by kernel_rfl) 0 rfl hk) (rk ?_)
 rcases ht:r0.toks with _ | ⟨t0,ts⟩
 ·
  have hn0:nn=0:=by rw [hnr,ht];rfl
  have hsr:eZ (m+1) r0.toks=some ([],r0.toks):=by simp only [eZ];rw [if_pos ht,ht]
  refine ky 0 (nn:Int) (by omega) (rs [] 1 0 ?_)
  refine pN (gz+1) 2 (gz+2) 56 3 l3.length hrow (by kernel_rfl) (by kernel_rfl) (by kernel_rfl) (fun ta tcap w1 B1 hk1 hB1 hlt1 hta=>?_)
  have ri1:RI F w b r0 B1 w1:=ri0.grow hk1 hB1 hlt1
  have hta_1:SlAt (Nw w B1) w1 ta l3.length 3 zk:=hta.mono fun k g=>⟨g.1,Nat.le_of_not_lt fun e=>g.2 (ri0.old k e)⟩
  have hk1n:Keep (Nw w B0) w0 w1:=hk1.mono fun k g=>g.1
  have hup:∀ k,Nw w B0 k→Nw w B1 k:=fun k g=>⟨hB1 k g.1,g.2⟩
  have hzk_1:LsAt (ThAt (Nw w B1) w1) l3 zk:=hzk.imp fun _ _ g=>g.keep hk1n hup
  have hsa_1:=(hsa_0.keep hk1n).mono hup
  have hma_1:=(hma_0.keep hk1n).mono hup
  refine rs [] 60 2 ?_
  exact gR (.agg #[.slice sa l1.length scap,.slice ma l2.length mcap,.slice ta l3.length tcap]) (fun W hk => .ret (x:=(⟨l1,l2,l3⟩:Pg)) (r':=r0) (by rw [hT4,hspec,hsr];simp) trivial ⟨_,rfl,sa,scap,xk,ma,mcap,yk,ta,tcap,zk,rfl,lR ri1 hsa_1 hk,hxk,lR ri1 hma_1 hk,hyk,lR ri1 hta_1 hk,hzk_1.imp fun _ _ g=>g.keep (hk.mono fun k g=>g.1) fun k g=>⟨g.2,aE (ri1.lt k g.1) hk.size⟩⟩ (ri1.to hk) (ri1.all hk))
 have hn0:0<nn:=by rw [hnr,ht];simp
 have htl:r0.toks.length=ts.length+1:=by rw [ht];rfl
 have hsr:eZ (m+1) r0.toks=match iY r0.toks with
   | none=>none
   | some (t,us)=>(eZ m us).map fun p=>(t::p.1,p.2):=by
  simp only [eZ]
  rw [if_neg (by rw [ht];simp)]
  cases iY r0.toks <;> rfl
 refine kx 0 (nn:Int) (by omega) (rs [] 60 1 ?_)
 refine oS [gz+1] (gz+2) (by kernel_rfl) (fun b hb=>hγ0 b (bC (bL _ 2) hb)) ?_
 intro γL BL wL hleL hγL hBL hltL hkL hLkL
 have riL:RI F w b r0 BL wL:=ri0.grow hkL hBL hltL
 obtain ⟨lk,hlk,hlk2,hlk1⟩:=hLkL (gz+1) (by kernel_rfl)
 have hlkb:¬ lk.1=b:=fun e=>hlk1 (e ▸ ri0.old b ri0.hb)
 obtain ⟨Bs,hBs⟩:∃ Bs:Nat→Prop,Bs=fun k=>BL k∧¬ k=b:=⟨_,rfl⟩
 have hS2:∀ W,Keep BL wL W→Keep Bs wL W:=fun W hk=>hk.mono fun k g=>by rw [hBs] at g;exact g.1
 have h1L:∀ q,b6 q [gz+1]=true→q=gz+1:=fun q hq=>by
  have:=hasNat_iff.1 hq
  rwa [List.mem_singleton] at this
 have hL2:∀ q,b6 q [gz+1]=true→∃ p,γL q=some p∧Bs p.1:=fun q hq=>by rw [h1L q hq,hBs];exact ⟨lk,hlk,hlk2,hlkb⟩
 have hLb:∀ q,b6 q [gz+1]=true→∃ p,γL q=some p∧¬ p.1=b:=fun q hq=>by rw [h1L q hq];exact ⟨lk,hlk,hlkb⟩
 refine iT (Keep Bs wL) cP (.take 0 (.take 1 (.take 2 (.run 3 (.run 4 (.run 5 (.take 6 .done))))))) 7 (by kernel_rfl) ?_
 refine fI [gz+1] 1 (Bs:=Bs) (ws:=wL) (by kernel_rfl) hS2 hL2 ?_
 refine aCc [gz+1] X (by kernel_rfl) (by rcases hrow.2 with ⟨h,h2,_⟩ | ⟨h,h2⟩ <;> subst h h2 <;> kernel_rfl) (Bs:=Bs) (ws:=wL) (by kernel_rfl) hS2 hL2 ?_
 refine fI [gz+1] 1 (Bs:=Bs) (ws:=wL) (by kernel_rfl) hS2 hL2 ?_
 refine pR (Keep Bs wL) hS2 ?_
 refine l6 [gz+1] (bV _ _) [nP b] riL (by kernel_rfl) (by kernel_rfl) (by kernel_rfl) (by rcases hrow.2 with ⟨h,h2,_⟩ | ⟨h,h2⟩ <;> subst h h2 <;> kernel_rfl) hLb (by kernel_rfl) (fun W hF hr hk=>aNu b r0 W hF hr hbb) (fun ho W e p he hk => .pan (by rw [hT4,hspec,hsr,ho];rfl) e p he hk) ?_
 rintro x4 ts4 r4 ho4 ht4 hn4 W4 v4 w4 B4 hv4 hkW4 ri4 hk4 hB4 hN4
 obtain ⟨tn4,tl4,tb4⟩:=x4
 obtain ⟨ds4,rfl,ta4,tc4,tx4,tb4a,td4,ty4,rfl,hta4,htb4,htc4,htd4⟩:=hv4
 have hS4:∀ W,Keep B4 w4 W→Keep Bs wL W:=fun W hk=>(hk4.mono fun k g=>by rw [hBs] at g;exact g).trans (hk.mono fun k g=>by rw [hBs] at g;exact hB4 k g.1)
 refine rk ?_
 refine pR (Keep Bs wL) hS4 ?_
 refine rk ?_
 refine pR (Keep Bs wL) hS4 ?_
 refine pL (gz+1) 2 (by kernel_rfl) (fun xold=>?_)
 have hcl:l3.length+1≤1000000000:=by omega
 refine nM (t:=25) (e:=56) (.slg (gz+3) 0 1 3) 3 64 (gz+2) l3.length 0 zk X ob [nT tn4,.slice ta4 tl4.length tc4,.slice tb4a tb4.length td4] [32] (by kernel_rfl) (by kernel_rfl) (by kernel_rfl) (by kernel_rfl) hrow (by kernel_rfl) (by kernel_rfl) (by kernel_rfl)
  (by unfold maxLen;omega) (by omega) (hγL (gz+2) (bL (gz+2) 0)) (by kernel_rfl) (by kernel_rfl) (by kernel_rfl) (by kernel_rfl) (by kernel_rfl) (fun X' ob' hrow'=>?_)
 rcases hrow'.2 with ⟨_,_,h0⟩ | ⟨rfl,rfl⟩
 · omega
 refine rk ?_
 refine fI [gz+1] 1 (Bs:=Bs) (ws:=wL) (by kernel_rfl) hS4 hL2 ?_
 refine lO (by kernel_rfl) ?_ (Keep Bs wL) (by kernel_rfl) hS4
 refine lL [gz+1] (by kernel_rfl) (fun q hq=>by rw [h1L q hq];exact ⟨lk,hlk⟩) ?_
 intro B6 h64 h46
 have hq6:∀ k,B4 k→¬ k=lk.1→B6 k:=fun k g1 g2=>h46 k g1 (fun q p hq hp e=>g2 (by
  rw [h1L q hq,hlk] at hp
  injection hp with hp
  rw [hp,e]))
 have h16:∀ k,B0 k→B6 k:=fun k g=>hq6 k (hB4 k (hBL k g)) (fun e=>hlk1 (e ▸ g))
 have ri6:RI F w b r4 B6 w4:=⟨ri4.rd,ri4.keep,fun k g=>h16 k (ri0.old k g),fun k g=>ri4.lt k (h64 k g),ri4.hF,ri4.hb⟩
 have hlw:lk.1<W4.heap.size:=aE (hltL _ hlk2) hkW4.size
 have hN6:∀ k,dC W4 w4 k→Nw w B6 k:=fun k g=>⟨hq6 k (hN4 k g).1 (fun e=>by have:=g.1;omega),(hN4 k g).2⟩
 have hk16:Keep (fun k=>B0 k∧¬ k=b) w0 w4:=(hkL.mono fun k g=>g.1).trans (hk4.mono fun k g=>⟨hBL k g.1,g.2⟩)
 refine rs [] 60 2 ?_
 have hvl:=aKg ho4
 obtain ⟨m1,hm1⟩:∃ m1,m=m1+1:=⟨m - 1,by omega⟩
 have hk0n:Keep (Nw w B0) w0 w4:=jC ri0 hk16
 have hup:∀ k,Nw w B0 k→Nw w B6 k:=fun k g=>⟨h16 k g.1,g.2⟩
 have hth:ThAt (Nw w B6) w4 ⟨tn4,tl4,tb4⟩ [nT tn4,.slice ta4 tl4.length tc4,.slice tb4a tb4.length td4]:=⟨ta4,tc4,tx4,tb4a,td4,ty4,rfl,hta4.mono hN6,htb4,htc4.mono hN6,htd4.keep (.refl _ _) hN6⟩
 have hI:aR7 F w b P1 (gz+2) sa l1.length xk ma l2.length yk ⟨r4,l3++[(⟨tn4,tl4,tb4⟩:Th)],zk++[nT tn4,.slice ta4 tl4.length tc4,.slice tb4a tb4.length td4],.slg (gz+2) 0 (l3.length+(0+1)) 3,some (.row 56 (zk++[nT tn4,.slice ta4 tl4.length tc4,.slice tb4a tb4.length td4])),m1⟩ B6 w4:=by
  refine ⟨ri6,(hzk.imp fun _ _ g=>g.keep hk0n hup).snoc hth,?_,(hsa_0.keep hk0n).mono hup,(hma_0.keep hk0n).mono hup,by show r4.blocks=0;rw [hn4,hbb],?_,by show r4.toks.length≤m1;rw [ht4];omega,by show (l3++[(⟨tn4,tl4,tb4⟩:Th)]).length+r4.toks.length≤P1.length;rw [aA,ht4,List.length_singleton];omega⟩
  · show RowAt _ 3 (gz+2) (l3++[_]).length _ _ _
    rw [aA]
    exact hrow'
  · show _=(eZ (m1+1) r4.toks).map fun p=>((l3++[(⟨tn4,tl4,tb4⟩:Th)])++p.1,p.2)
    rw [hspec,hsr,ho4,ht4,← hm1]
    simp only []
    cases eZ m ts4 <;> simp
 exact gU _ [(0,vP b),(2,.ptr gz 0),(3,.ptr (gz+1) 0)] [(gz,bK 27 3 [vL none 0 0,vL none 0 0,vL none 0 0]),(gz+1,bK 27 3 [vL sa l1.length scap,vL ma l2.length mcap,.slg (gz+2) 0 (l3.length+(0+1)) 3]),(gz+2,some (.row 56 (zk++[nT tn4,.slice ta4 tl4.length tc4,.slice tb4a tb4.length td4])))] (gz+3) (fun b hb=>hγL b (bC (bL (gz+2) 1) hb)) ((ih _ B6 w4 hI (by show r4.toks.length<r0.toks.length;rw [ht4];omega)).up hleL)
end
section
set_option maxRecDepth 100000
open Go.Sy
theorem aVg (kr kp b:Nat) (r:Rd) {F:Nat→Prop} (w:World) (hF:∀ k,F k→k<w.heap.size) (h:RdAt F w b r) (hd:r.blocks=0) (hkr:w.heap[kr]?=some (.cells [nP b].toArray 59 (0,0))) (hkp:w.heap[kp]?=some (.cells [.slice none 0 0,.slice none 0 0,.slice none 0 0].toArray 27 (0,0))) (hpb:¬ kp=b) (hrb:¬ kr=b):Calls Tryz.prog 14 #[nP kr,nP kp] w fun e w'=>Keep (fun k=>k<w.heap.size∧¬ (k=b∨k=kp)) w w'∧(match pgK r.toks with
   | some (p,_)=>e = .returned (.tuple #[])∧∃ ds:List Value,w'.heap[kp]?=some (.cells ds.toArray 27 (0,0))∧PgAt (dC w w') w' p ds
   | none=>w'.heap[kp]?=some (.cells [.slice none 0 0,.slice none 0 0,.slice none 0 0].toArray 27 (0,0))∧∃ ee pp:Int,¬ ee=0∧e = .panicked [{ v:=kG ee pp,recovered:=false }]):=by
 have ri0:=RI.init hF h
 have hkrl:kr<w.heap.size:=(Array.getElem?_eq_some_iff.1 hkr).1
 have hkpl:kp<w.heap.size:=(Array.getElem?_eq_some_iff.1 hkp).1
 refine eN [nP kr,nP kp] Tryz.func14 (fun γ0 hγ0=>?_)
 refine rk ?_
 refine gV (nP b) (S:=Instr.loadAt 59 (nP kr)) (fun W hk=>ldB (mH (F:=(·<w.heap.size)) hkr hkrl rfl) (by kernel_rfl) 0 rfl hk) (rk ?_)
 refine bU (bV _ _) [nP b] ri0 (by kernel_rfl) (by kernel_rfl) (by kernel_rfl) (by kernel_rfl) (by kernel_rfl) (fun W hF hr hk=>aMc b r W hF hr hd) (fun ho W e p he hk=>⟨hk.mono (fun k g=>⟨g.1,fun e=>g.2 (.inl e)⟩),by rw [ho];exact ⟨(hk.block kp ⟨hkpl,hpb⟩).trans hkp,e,p,he,rfl⟩⟩) ?_
 rintro x1 ts1 r1 ho1 ht1 hn1 W v1 w1 B1 hv1 hkW1 ri1 hk1 hB1 hN1
 obtain ⟨ds,rfl,hpg⟩:=hv1
 have hpg0:=hpg
 obtain ⟨pa,pc,px,pb,pd,py,pe,pf,pz,rfl,_⟩:=hpg0
 refine rk ?_
 refine aH8 27 (nP kp) (.agg #[.slice pa x1.shared.length pc,.slice pb x1.mutexes.length pd,.slice pe x1.threads.length pf]) (ay:=bW (.agg #[.slice pa x1.shared.length pc,.slice pb x1.mutexes.length pd,.slice pe x1.threads.length pf])) (fun k=>k=kp) (Pr:=fun _ W'=>W'.heap[kp]?=some (.cells [.slice pa x1.shared.length pc,.slice pb x1.mutexes.length pd,.slice pe x1.threads.length pf].toArray 27 (0,0))) (by kernel_rfl) (by kernel_rfl) (by kernel_rfl) (fun k e=>e ▸ ri1.old kp hkpl) (fun W hk=>aI5 (n:=3) (by kernel_rfl) ((hk.block kp (ri1.old kp hkpl)).trans ((hk1.block kp ⟨hkpl,hpb⟩).trans hkp)) rfl _ rfl rfl (fun x hx=>by
  simp only [List.mem_cons,List.not_mem_nil,or_false] at hx
  rcases hx with rfl | rfl | rfl <;> rfl)) ?_
 intro W2 w2 B2 hk02 hcl2 hkk hk12 hB12 hB2
 refine rs [] 60 2 ?_
 exact gR (.tuple #[]) (fun W3 hk3=>⟨(hk1.mono fun k g=>⟨g.1,fun e=>g.2 (.inl e)⟩).trans ((hk12.mono fun k g=>⟨hB1 k g.1,fun e=>g.2 (.inr e)⟩).trans (hk3.mono fun k g=>hB12 k (hB1 k g.1))),by
  rw [ho1]
  refine ⟨rfl,_,(hk3.block kp (hB12 kp (ri1.old kp hkpl))).trans hcl2,?_⟩
  have hkw:Keep (dC W w1) w1 W3:=(hk12.mono fun k g=>⟨(hN1 k g).1,fun e=>by have:=(hN1 k g).2;omega⟩).trans (hk3.mono fun k g=>hB12 k (hN1 k g).1)
  exact hpg.keep hkw (fun k g=>⟨(hN1 k g).2,aE g.2 hkw.size⟩)⟩)
theorem aLb (kr kp b:Nat) (r:Rd) {F:Nat→Prop} (w:World) (hF:∀ k,F k→k<w.heap.size) (h:RdAt F w b r) (hd:r.blocks=0) (hkr:w.heap[kr]?=some (.cells [nP b].toArray 59 (0,0))) (hkp:w.heap[kp]?=some (.cells [.slice none 0 0,.slice none 0 0,.slice none 0 0].toArray 27 (0,0))) (hpb:¬ kp=b) (hrb:¬ kr=b):Calls Tryz.prog 13 #[.func (.func 14) #[] #[nP kr,nP kp]] w fun e w'=>Keep (fun k=>k<w.heap.size∧¬ (k=b∨k=kp)) w w'∧(match pgK r.toks with
   | some (p,_)=>e = .returned (.agg #[nI 0,nI 0])∧∃ ds:List Value,w'.heap[kp]?=some (.cells ds.toArray 27 (0,0))∧PgAt (dC w w') w' p ds
   | none=>w'.heap[kp]?=some (.cells [.slice none 0 0,.slice none 0 0,.slice none 0 0].toArray 27 (0,0))∧∃ ee pp:Int,¬ ee=0∧e = .returned (.agg #[nI ee,nI pp])):=by
 have hbl:=h.lt
 have hkpl:kp<w.heap.size:=(Array.getElem?_eq_some_iff.1 hkp).1
 refine eN [.func (.func 14) #[] #[nP kr,nP kp]] Tryz.func13 (fun γ0 hγ0=>?_)
 refine rk ?_
 refine oJ (bV _ _) [nP kr,nP kp] (fun k=>k=b∨k=kp) (Pr:=fun W v W'=>v = .tuple #[]∧∃ p ts,pgK r.toks=some (p,ts)∧∃ ds:List Value,W'.heap[kp]?=some (.cells ds.toArray 27 (0,0))∧PgAt (dC W W') W' p ds) (Pp:=fun _ v W'=>pgK r.toks=none∧W'.heap[kp]?=some (.cells [.slice none 0 0,.slice none 0 0,.slice none 0 0].toArray 27 (0,0))∧∃ ee pp:Int,¬ ee=0∧v=kG ee pp) (by kernel_rfl) (by kernel_rfl) (fun γ vs hl=>eY (by kernel_rfl) hl) (by kernel_rfl) (fun k e=>e.elim (fun e=>e ▸ hbl) (fun e=>e ▸ hkpl)) (fun W hk=>(aVg kr kp b r W (fun k g=>aE (hF k g) hk.size) (h.keep hF hk) hd ((hk.block kr (Array.getElem?_eq_some_iff.1 hkr).1).trans hkr) ((hk.block kp hkpl).trans hkp) hpb hrb).mono fun e w' ⟨h1,h2⟩=>by
  split at h2
  · rename_i p ts hp
    obtain ⟨h3,ds,h4,h5⟩:=h2
    exact .inl ⟨_,h3,⟨rfl,p,ts,hp,ds,h4,h5⟩,h1⟩
  · rename_i hp
    obtain ⟨h5,ee,pp,h3,h4⟩:=h2
    exact .inr ⟨_,h4,⟨hp,h5,ee,pp,h3,rfl⟩,h1⟩) ?_ ?_
 rotate_left
 · rintro W v w1 B1 hkW ⟨hp,hcl,ee,pp,hee,rfl⟩ hkk hk1 hB1 hBn1 hlt1
   exact aG8 (bV _ _) 400 (by kernel_rfl) (by kernel_rfl) (fun γ W2 v _ hv _ hk=>by
    rw [mC (y := .agg #[nI ee,nI pp]) (by kernel_rfl) hv]
    exact ⟨hk1.trans (hk.mono fun k g=>hB1 k g.1),by rw [hp];exact ⟨(hk.block kp (hB1 kp hkpl)).trans hcl,ee,pp,hee,rfl⟩⟩)
 rintro W v w1 B1 hkW ⟨rfl,p,ts,hp,ds,hds,hpg⟩ hkk hk1 hB1 hBn1 hlt1
 refine rs [] 60 2 ?_
 exact aIe (bV _ _) 400 (by kernel_rfl) (by kernel_rfl) (fun γ W2 v _ hv _ hk=>by
  rw [mC (y := .agg #[nI 0,nI 0]) (by kernel_rfl) hv]
  refine ⟨hk1.trans (hk.mono fun k g=>hB1 k g.1),?_⟩
  rw [hp]
  exact ⟨rfl,ds,(hk.block kp (hB1 kp hkpl)).trans hds,hpg.keep (hk.mono fun k g=>hBn1 k g.1 g.2) (fun k g=>⟨bC hkW.size g.1,aE g.2 hk.size⟩)⟩)
end
section
structure TR where
 err:Int
 off:Nat
 kind:Int
 len:Nat
 ty:Int
 va:Int
def i8 (r:List UInt8):Nat:=(r.takeWhile fun c=>nmB (c.toNat:Int)).length
def nZ:Option UInt8→Bool
 | none=>false
 | some x=>i6 (x.toNat:Int) || (x.toNat:Int)==46
def eQ (c:Int) (r:List UInt8):TR:=
 if i6 c=true then (if 24<i8 r then ⟨5,0,0,0,0,0⟩ else ⟨0,0,1,i8 r,0,0⟩)
 else if eD c=true then (if iZ r=true then (if nZ r[cK r]?=true then ⟨4,cK r,0,0,0,0⟩ else ⟨0,0,nmK r,cK r,nmT r,nmV r⟩) else ⟨4,0,0,0,0,0⟩)
 else if fT r=0 then ⟨4,0,0,0,0,0⟩ else ⟨0,0,4,fT r,0,0⟩
def cY (r:List UInt8):TR:=match r with
 | []=>⟨4,0,0,0,0,0⟩
 | c::t=>eQ (c.toNat:Int) (c::t)
def oN (R:TR) (r:List UInt8) (k:Nat):Array Value:=if R.err=0 then tkC R.kind (r.take R.len) k R.ty R.va else tkC 0 [] 0 0 0
def fC (e a:Int):Array Value:=#[.int .i64 e,.int .i64 a]
def o7 (R:TR) (k:Nat):Array Value:=if R.err=0 then fC 0 0 else fC R.err ((k+R.off:Nat):Int)
theorem aK8 {r:List UInt8} {k n:Nat} {kd ty va:Int} (h:cY r=⟨0,0,kd,n,ty,va⟩):oN (cY r) r k=tkC kd (r.take n) k ty va∧o7 (cY r) k=fC 0 0:=by
 rw [h]
 exact ⟨rfl,rfl⟩
theorem aBq {r:List UInt8} {k n:Nat} {e:Int} (he:e≠0) (h:cY r=⟨e,n,0,0,0,0⟩):oN (cY r) r k=tkC 0 [] 0 0 0∧o7 (cY r) k=fC e ((k+n:Nat):Int):=by
 rw [h]
 unfold oN o7
 exact ⟨if_neg he,if_neg he⟩
theorem aOh {p:Prop} [Decidable p] {a b m:Nat} (ha:a≤m) (hb:b≤m):(if p then a else b)≤m:=by split <;> assumption
theorem aT0 {p:Prop} [Decidable p] {a b m:Nat} (hp:¬ p) (hb:b≤m):(if p then a else b)≤m:=by rw [if_neg hp];exact hb
theorem aOk (T:List UInt8) (c:UInt8):dS T c≤2:=by
 unfold dS
 repeat (refine aOh (by omega) ?_)
 exact Nat.zero_le _
theorem aGj {T:List UInt8} (c:UInt8) (h:T.length≠2):dS T c≤1:=by
 unfold dS
 iterate 6 (refine aT0 (fun e=>h (by rw [eq_of_beq e];rfl)) ?_)
 repeat (refine aOh (by omega) ?_)
 exact Nat.zero_le _
theorem aAd (r:List UInt8):fT r≤2:=by
 cases r with
 | nil=>exact Nat.zero_le _
 | cons c t=>exact aOk _ _
theorem wM {r:List UInt8} (h:fT r=2):2≤r.length:=by
 cases r with
 | nil=>cases h
 | cons c t=>
   rcases aY (c::t).length 2 with g | g
   · have h1:dS ((c::t).take 2) c≤1:=aGj c (by rw [aT];omega)
     have h2:dS ((c::t).take 2) c=2:=h
     omega
   · exact g
theorem aHs (r:List UInt8):cK r≤r.length:=by
 have h1:=qU r
 have h2:=qU (r.drop (dgN r+1))
 rw [bI] at h2
 unfold cK
 split
 · rename_i h
   unfold ptN at h
   rw [aI] at h
   have:=(List.getElem?_eq_some_iff.1 (eq_of_beq h.1)).1
   omega
 · exact h1
open Go.Sy in
set_option maxRecDepth 100000 in
theorem aOo (s:List UInt8) (k:Nat) (hs:s.length≤1048576) (hk:k<s.length) (w:World):
  CB 27 #[nT s,nI (k:Int)] w (.tuple #[.agg (oN (cY (s.drop k)) (s.drop k) k),.agg (o7 (cY (s.drop k)) k)]):=by
 obtain ⟨r,hr⟩:∃ r,r=s.drop k:=⟨_,rfl⟩
 obtain ⟨c,hc⟩:∃ c,c=s[k]:=⟨_,rfl⟩
 have hrc:r=c::s.drop (k+1):=by rw [hr,hc];exact List.drop_eq_getElem_cons hk
 have htc:cY r=eQ (c.toNat:Int) r:=by rw [hrc];rfl
 have hix:=fun W=>kL s k hk W
 have hnum:=fun hd W=>aPs s k hs hk hd W
 rw [← hc] at hix hnum
 rw [← hr] at hnum ⊢
 refine Sy.enter (vs:=[nT s,nI (k:Int)]) p4 Tryz.func27 rfl (fun γ=>LR.vs _) rfl (fun γ0 hγ0=>?_)
 refine rs [14] 60 0 ?_
 refine gV (n8 (c.toNat:Int)) (S:=Instr.index 9 (nT s) (nI (k:Int))) (fun w _=>hix w) ?_
 refine gP [n8 (c.toNat:Int)] (.bool (i6 (c.toNat:Int))) (fun w _=>aA3 _ w) (rk ?_)
 refine cJ (b:=i6 (c.toNat:Int)) (by kernel_rfl) (fun hle=>?_) (fun hle=>?_)
 · obtain ⟨E,hE⟩:∃ E,E=gQ nmB s k:=⟨_,rfl⟩
   have hEr:E=k+i8 r:=by rw [hE,hr];rfl
   have hlen:=p8 nmB s k (by omega)
   have HRU:=fun W=>uA 60 nmB s k W hs (by omega) (fun args w=>by simp [go_sem]) (fun c w=>aLn c w)
   rw [← hE] at HRU hlen
   refine rk ?_
   refine gP [nT s,nI (k:Int),.func (.func 60) #[] #[]] (nI (E:Int)) (fun w _=>HRU w) (rk ?_)
   by_cases h24:24<i8 r
   · have HR:=aBq (k:=k) (r:=r) (e:=5) (n:=0) (by decide) (by rw [htc];unfold eQ;rw [hle,if_pos rfl,if_pos h24])
     rw [Nat.add_zero] at HR
     refine gK true (b:=intLt 24 (cA .i64 ((E:Int) - (k:Int)))) (by rw [cR (by omega) (by omega)];exact qC (by omega)) (rk ?_)
     refine gR (.tuple #[.agg (tkC 0 [] 0 0 0),.agg (fC 5 (k:Nat))]) (fun W hk=>⟨by rw [HR.1,HR.2],hk.below⟩)
   · have HR:=aK8 (k:=k) (r:=r) (by rw [htc];unfold eQ;rw [hle,if_pos rfl,if_neg h24])
     refine gK false (b:=intLt 24 (cA .i64 ((E:Int) - (k:Int)))) (by rw [cR (by omega) (by omega)];exact rE (by omega)) (rs [29] 60 0 ?_)
     obtain ⟨T,hT⟩:∃ T,T=r.take (i8 r):=⟨_,rfl⟩
     rw [← hT] at HR
     refine gV (nT T) (S:=Instr.sliceAt 9 (nT s) (some (nI (k:Int))) (some (nI (E:Int))) none) (fun w _=>aEm s k E (by omega) (by omega) T (by rw [← hr,hT,hEr];congr 1;omega) _ Tryz.underlying9 w) (rk ?_)
     refine gR (.tuple #[.agg (tkC 1 T k 0 0),.agg (fC 0 0)]) (fun W hk=>⟨by rw [HR.1,HR.2],hk.below⟩)
 · refine rs [36] 60 0 ?_
   refine gV (n8 (c.toNat:Int)) (S:=Instr.index 9 (nT s) (nI (k:Int))) (fun w _=>hix w) ?_
   refine gP [n8 (c.toNat:Int)] (.bool (eD (c.toNat:Int))) (fun w _=>qF _ w) (rk ?_)
   refine cJ (b:=eD (c.toNat:Int)) (by kernel_rfl) (fun hdi=>?_) (fun hdi=>?_)
   · refine rk ?_
     obtain ⟨T,hT⟩:∃ T,T=fB r:=⟨_,rfl⟩
     obtain ⟨kd,hkd⟩:∃ kd,kd=nmK r:=⟨_,rfl⟩
     obtain ⟨ty,hty⟩:∃ ty,ty=nmT r:=⟨_,rfl⟩
     obtain ⟨va,hva⟩:∃ va,va=nmV r:=⟨_,rfl⟩
     have hN:=hnum hdi
     rw [← hT,← hkd,← hty,← hva] at hN
     refine gX [nT s,nI (k:Int)] (.tuple #[.agg (tkC kd T k ty va),.bool (iZ r)]) (fun w _=>hN w) (rk ?_)
     refine cJ (b:=!(iZ r)) (by kernel_rfl) (fun hok=>?_) (fun hok=>?_)
     · have hok:iZ r=false:=by simpa using hok
       have HR:=aBq (k:=k) (r:=r) (e:=4) (n:=0) (by decide) (by rw [htc];unfold eQ;rw [hle,hdi,if_neg (by decide),if_pos rfl,hok,if_neg (by decide)])
       rw [Nat.add_zero] at HR
       refine rk ?_
       refine gR (.tuple #[.agg (tkC 0 [] 0 0 0),.agg (fC 4 (k:Nat))]) (fun W hk=>⟨by rw [HR.1,HR.2],hk.below⟩)
     · have hok:iZ r=true:=by simpa using hok
       obtain ⟨F,hF⟩:∃ F,F=k+cK r:=⟨_,rfl⟩
       have hrl:r.length=s.length - k:=by rw [hr,bI]
       have hnl:=aHs r
       have hTl:T.length=cK r:=by rw [hT];unfold fB;rw [aT];omega
       refine rs [54] 60 0 ?_
       refine gS 9 (x:=nI (cA .i64 ((k:Int)+((str T).size:Nat)))) (nI (F:Int)) (by rw [str_size,cR (by omega) (by omega)];congr 1;omega) (rs [59] 60 0 ?_)
       by_cases hFs:F<s.length
       · obtain ⟨d,hd⟩:∃ d,d=s[F]:=⟨_,rfl⟩
         have her:∀ j,r[j]?=s[k+j]?:=fun j=>by rw [hr,List.getElem?_drop]
         have hrd:r[cK r]?=some d:=by rw [her,← hF,aO hFs,hd]
         have hix2:=fun W=>kL s F hFs W
         rw [← hd] at hix2
         refine gS 58 (x := .bool (intLt (F:Int) ((str s).size:Nat))) (.bool true) (by rw [str_size];congr 1;exact qC (by omega)) (rs [61] 60 0 ?_)
         refine gV (n8 (d.toNat:Int)) (S:=Instr.index 9 (nT s) (nI (F:Int))) (fun w _=>hix2 w) ?_
         refine gP [n8 (d.toNat:Int)] (.bool (i6 (d.toNat:Int))) (fun w _=>aA3 _ w) (rs [64] 60 0 ?_)
         rcases aJ (i6 (d.toNat:Int)) with hld | hld
         ·
          have HR:=aBq (k:=k) (r:=r) (e:=4) (n:=cK r) (by decide) (by rw [htc];unfold eQ;rw [hle,hdi,if_neg (by decide),if_pos rfl,hok,if_pos rfl,hrd,if_pos (show nZ (some d)=true by show (i6 (d.toNat:Int) || (d.toNat:Int)==46)=true;rw [hld];rfl)])
          rw [← hF] at HR
          refine gS 63 (x := .bool (i6 (d.toNat:Int))) (.bool true) (by rw [hld]) (rs [] 60 1 ?_)
          refine gR (.tuple #[.agg (tkC 0 [] 0 0 0),.agg (fC 4 (F:Nat))]) (fun W hk=>⟨by rw [HR.1,HR.2],hk.below⟩)
         ·
          refine gS 63 (x := .bool (i6 (d.toNat:Int))) (.bool false) (by rw [hld]) (rs [66] 60 0 ?_)
          refine gV (n8 (d.toNat:Int)) (S:=Instr.index 9 (nT s) (nI (F:Int))) (fun w _=>hix2 w) (rk ?_)
          refine cJ (b:=intEq (d.toNat:Int) 46) (by kernel_rfl) (fun h46=>?_) (fun h46=>?_)
          · rw [intEq_eq] at h46
            have HR:=aBq (k:=k) (r:=r) (e:=4) (n:=cK r) (by decide) (by rw [htc];unfold eQ;rw [hle,hdi,if_neg (by decide),if_pos rfl,hok,if_pos rfl,hrd,if_pos (show nZ (some d)=true by show (i6 (d.toNat:Int) || (d.toNat:Int)==46)=true;rw [hld];simpa using h46)])
            rw [← hF] at HR
            refine rk ?_
            refine gR (.tuple #[.agg (tkC 0 [] 0 0 0),.agg (fC 4 (F:Nat))]) (fun W hk=>⟨by rw [HR.1,HR.2],hk.below⟩)
          · rw [intEq_eq] at h46
            have HR:=aK8 (k:=k) (r:=r) (by rw [htc];unfold eQ;rw [hle,hdi,if_neg (by decide),if_pos rfl,hok,if_pos rfl,hrd,if_neg (show ¬ nZ (some d)=true by show ¬ (i6 (d.toNat:Int) || (d.toNat:Int)==46)=true;rw [hld];simpa using h46)])
            rw [show r.take (cK r)=T from hT.symm,← hkd,← hty,← hva] at HR
            refine rk ?_
            refine gR (.tuple #[.agg (tkC kd T k ty va),.agg (fC 0 0)]) (fun W hk=>⟨by rw [HR.1,HR.2],hk.below⟩)
       · have hrd:r[cK r]?=none:=by rw [List.getElem?_eq_none];omega
         have HR:=aK8 (k:=k) (r:=r) (by rw [htc];unfold eQ;rw [hle,hdi,if_neg (by decide),if_pos rfl,hok,if_pos rfl,hrd,if_neg (show ¬ nZ none=true by decide)])
         rw [show r.take (cK r)=T from hT.symm,← hkd,← hty,← hva] at HR
         refine gS 58 (x := .bool (intLt (F:Int) ((str s).size:Nat))) (.bool false) (by rw [str_size];congr 1;exact rE (by omega)) (rs [] 60 1 ?_)
         refine gR (.tuple #[.agg (tkC kd T k ty va),.agg (fC 0 0)]) (fun W hk=>⟨by rw [HR.1,HR.2],hk.below⟩)
   · refine rk ?_
     have hsg:=fun W=>aP8 s k hs hk W
     rw [← hr] at hsg
     obtain ⟨n,hn⟩:∃ n,n=fT r:=⟨_,rfl⟩
     rw [← hn] at hsg
     refine gP [nT s,nI (k:Int)] (nI (n:Int)) (fun w _=>hsg w) (rk ?_)
     refine cJ (b:=intEq (n:Int) 0) (by kernel_rfl) (fun h0=>?_) (fun h0=>?_)
     · rw [intEq_eq] at h0
       have n0:n=0:=by have:=of_decide_eq_true h0;omega
       have HR:=aBq (k:=k) (r:=r) (e:=4) (n:=0) (by decide) (by rw [htc];unfold eQ;rw [hle,hdi,if_neg (by decide),if_neg (by decide),← hn,if_pos n0])
       rw [Nat.add_zero] at HR
       refine rk ?_
       refine gR (.tuple #[.agg (tkC 0 [] 0 0 0),.agg (fC 4 (k:Nat))]) (fun W hk=>⟨by rw [HR.1,HR.2],hk.below⟩)
     · rw [intEq_eq] at h0
       have n0:n≠0:=by have:=of_decide_eq_false h0;omega
       have HR:=aK8 (k:=k) (r:=r) (by rw [htc];unfold eQ;rw [hle,hdi,if_neg (by decide),if_neg (by decide),← hn,if_neg n0])
       have hnl:k+n≤s.length:=by
        have h1:n≤2:=by rw [hn,hrc];exact aAd _
        have h2:n=2→k+1<s.length:=fun e=>by
         rw [hn] at e
         have:=wM e
         rw [hr,bI] at this
         omega
        omega
       obtain ⟨T,hT⟩:∃ T,T=r.take n:=⟨_,rfl⟩
       rw [← hT] at HR
       refine rs [88] 60 0 ?_
       refine gS 87 (x:=nI (cA .i64 ((k:Int)+(n:Int)))) (nI ((k+n:Nat):Int)) (by rw [cR (by omega) (by omega)];congr 1) ?_
       refine gV (nT T) (S:=Instr.sliceAt 9 (nT s) (some (nI (k:Int))) (some (nI ((k+n:Nat):Int))) none) (fun w _=>aEm s k (k+n) (by omega) (by omega) T (by rw [← hr,hT];congr 1;omega) _ Tryz.underlying9 w) (rk ?_)
       refine gR (.tuple #[.agg (tkC 4 T k 0 0),.agg (fC 0 0)]) (fun W hk=>⟨by rw [HR.1,HR.2],hk.below⟩)
end
end Go.Proofs.YtijopiphkgddhaaGreatDoor
