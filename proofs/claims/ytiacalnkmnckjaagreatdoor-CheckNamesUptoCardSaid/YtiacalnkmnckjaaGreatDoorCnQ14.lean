/- Texts of this proof, one behind the other. Conditions: those in each theorem. -/
import Derived.Test.YtiacalnkmnckjaaGreatDoorCnQ13
import Derived.Test.YtiacalnkmnckjaaGreatDoorCnQ8
import Derived.Test.YtiacalnkmnckjaaGreatDoorCnQ1
set_option linter.unusedVariables false
set_option linter.unusedSimpArgs false
namespace Go.Proofs.YtiacalnkmnckjaaGreatDoor
open Go.RowKit Go.As
section
theorem LsAt.app {α:Type} {A:α→List Value→Prop}:∀ {l r:List α} {xs ys:List Value},LsAt A l xs→LsAt A r ys→LsAt A (l++r) (xs++ys)
 | [],r,xs,ys,h,hr=>by
   obtain rfl:xs=[]:=h
   exact hr
 | e::l,r,xs,ys,⟨c,q,h1,h2,h3⟩,hr=>⟨c,q++ys,by rw [h1,List.append_assoc],h2,LsAt.app h3 hr⟩
def PlAt (F:Nat→Prop) (w:World) (x:St×Nat) (c:List Value):Prop:=∃ sc,c=sc++[.int .i64 (x.2:Int)]∧StAt F w x.1 sc
theorem PlAt.len {F:Nat→Prop} {w:World} {x:St×Nat} {c:List Value} (h:PlAt F w x c):c.length=10:=by
 obtain ⟨sc,rfl,h⟩:=h
 have:=h.len
 simp [this]
theorem PlAt.keep {F F':Nat→Prop} {w w':World} (hk:Sy.Keep F w w') (hF:∀ k,F k→F' k) {x:St×Nat} {c:List Value} (h:PlAt F w x c):PlAt F' w' x c:=let ⟨sc,h1,h2⟩:=h;⟨sc,h1,h2.keep hk hF⟩
mutual
theorem ExAt.one {F:Nat→Prop} {w:World}:∀ {e:Ex} {cs:List Value},ExAt F w e cs→∀ v∈cs,v.oneCell'=true
 | .mk op ty bits name kids,cs,h=>by
   simp only [ExAt] at h
   obtain ⟨a,cap,xs,rfl,_⟩:=h
   simp [Value.oneCell']
end
theorem StAt.one {F:Nat→Prop} {w:World} {s:St} {cs:List Value} (h:StAt F w s cs):∀ v∈cs,v.oneCell'=true:=by
 cases s with
 | mk k n e b l=>
   simp only [StAt] at h
   obtain ⟨ec,a,cap,xs,b',cap2,ys,rfl,h2,_⟩:=h
   have:=h2.one
   intro v hv
   simp only [List.mem_cons,List.mem_append,List.not_mem_nil,or_false] at hv
   rcases hv with rfl | rfl | hv | rfl | rfl <;> first | rfl | exact this v hv
theorem PlAt.one {F:Nat→Prop} {w:World}:∀ {l:List (St×Nat)} {xs:List Value},LsAt (PlAt F w) l xs→xs.all (fun v=>v.oneCell')=true
 | [],xs,h=>by
   obtain rfl:xs=[]:=h
   rfl
 | x::l,xs,⟨c,r,h1,⟨sc,h2,h3⟩,h4⟩=>by
   have:=PlAt.one h4
   rw [h1,List.all_append,this,Bool.and_true,List.all_eq_true]
   intro v hv
   rw [h2] at hv
   rcases List.mem_append.1 hv with hv | hv
   · exact h3.one v hv
   · obtain rfl:v = .int .i64 (x.2:Int):=by simpa using hv
     rfl
def PlPr (F:Nat→Prop) (L:List (St×Nat)) (w:World) (v:Value) (w':World):Prop:=∃ a cap xs,v = .slice a L.length cap∧Sy.SlAt (NewIn w w') w' a L.length 10 xs∧LsAt (PlAt F w') L xs
theorem pl_app {F:Nat→Prop} {w w':World} {l r:List (St×Nat)} {xs ys:List Value} (h:LsAt (PlAt F w) l xs) (hk:Sy.Keep F w w') (hr:LsAt (PlAt F w') r ys):LsAt (PlAt F w') (l++r) (xs++ys):=(h.imp fun _ _ h=>h.keep hk (fun k h=>h)).app hr
open Go.Sy in
set_option maxRecDepth 100000 in
theorem dstmts_any (F:Nat→Prop):∀ (N:Nat) (L:List St) (a:Option Addr) (n cap:Nat) (xs:List Value) (deep:Nat) (w:World),n=L.length→swts L<N→swts L+deep≤100000000000→(∀ k,F k→k<w.heap.size)→SlAt F w a n 9 xs→StsAt F w L xs→
  Calls Tryz.prog 90 #[.slice a n cap,nI (deep:Int)] w fun r w'=>∃ v,r = .returned v∧PlPr F (flatL deep L) w v w'∧Below w.heap.size w w':=by
 intro N
 induction N with
 | zero=>intro L a n cap xs deep w hn h;omega
 | succ N ihN=>
   intro L a n cap xs deep w hn hN0 hbd hF hsl hks
   have hnl:=swts_len L
   refine eN [.slice a n cap,nI (deep:Int)] Tryz.func90 (fun γ0 hγ0=>?_)
   have hγ0:∀ b,gz≤b→γ0 b=none:=hγ0
   refine rk ?_
   refine good_toLp ?_
   refine good_loopB (fun i:CI St=>i.l2.length) (fun i B w1=>L=i.l1++i.l2∧LsAt (PlAt F w1) (flatL deep i.l1) i.xs∧RowAt 141 10 gz (flatL deep i.l1).length i.xs i.X i.ob∧WkI w B w1) (fun i=>⟨mkT [(0,vL a n cap),(1,vI (deep:Int)),(5,i.X),(6,vI (i.l1.length:Int))],mkH [(gz,i.ob)],gz+1,[]⟩)
    ⟨[],L,[],vL none 0 0,none⟩ ⟨rfl,rfl,RowAt.nil _ _ _,.refl w⟩ (by kernel_rfl)
    (fun h=>good_sub _ [(0,vL a n cap),(1,vI (deep:Int)),(5,vL none 0 0),(6,vI (([]:List St).length:Int))] [(gz,none)] (gz+1) rfl (by kernel_rfl) (by kernel_rfl) (allLtT_cons (by kernel_rfl) (allLtT_cons (by kernel_rfl) (allLtT_cons (by kernel_rfl) (allLtT_cons (by kernel_rfl) rfl)))) (by kernel_rfl) (allLtH_cons (by kernel_rfl) (by kernel_rfl) rfl) (fun b hb=>hγ0 b (by omega)) (by kernel_rfl) h) ?_
   rintro ⟨l1,l2,xk,X,ob⟩ B5 w5 ⟨hsp,hxk,hrow,hN0⟩ ih
   simp only at hsp hxk hrow
   have hN:WkI w B5 w5:=hN0
   clear hN0
   have hn2:n=l1.length+l2.length:=by rw [hn,hsp,List.length_append]
   have hw1:swts L=swts l1+swts l2:=by rw [hsp,swts_app]
   have hFB:∀ k,F k→B5 k:=fun k h=>hN.old k (hF k h)
   refine rk ?_
   cases l2 with
   | nil=>
     have hn3:n=l1.length:=by rw [hn2];simp
     have hl1:l1=L:=by rw [hsp];simp
     refine ky (l1.length:Int) (n:Int) (by omega) ?_
     refine rk ?_
     exact good_endRow (base:=w.heap.size) hrow (by kernel_rfl) (by kernel_rfl) hN.old (fun W a' cap' hk hsl=>⟨_,rfl,⟨a',cap',xk,by rw [← hl1],by rw [← hl1];exact hsl,by rw [← hl1];exact hxk.imp fun _ _ h=>h.keep (hk.mono hFB) (fun k h=>h)⟩,(hN.to hk).below⟩)
   | cons s l3=>
     have hin:l1.length<n:=by rw [hn2,List.length_cons];omega
     have hks2:=hks.keep (hN.keep.mono hF) (fun k h=>h)
     rw [hsp] at hks2
     obtain ⟨c,hc,hcell⟩:=hks2.at_
     have hsl0:=(hsl.keep (hN.keep.mono hF)).mono hFB
     simp only [swts] at hw1
     have hfl1:=flatL_len deep l1
     have hst0:=hc
     obtain ⟨uK,us,⟨uo,ut,uv,un,uk⟩,uB,uL⟩:=s
     simp only [StAt] at hc
     obtain ⟨ucs,uj,uh,ubx,ui,uw,ulx,rfl,uhe,uhbs,uhbt,uhls,uhlt⟩:=hc
     have uhe0:=uhe
     simp only [ExAt] at uhe0
     obtain ⟨uf,ug,uex,rfl,_⟩:=uhe0
     have hcell:∀ j v,((yL uK us uo ut uv un uf uk.length ug uj uB.length uh ui uL.length uw):List Value)[j]?=some v→xs[l1.length*9+j]?=some v:=hcell
     have umid:∀ j v,((xL uo ut uv un uf uk.length ug):List Value)[j]?=some v→xs[l1.length*9+2+j]?=some v:=cell_part hcell 2 (mid_get [_,_] (xL uo ut uv un uf uk.length ug) [_,_])
     simp only [swt] at hw1
     have hfb:=flatL_len (deep+1) uB
     have hfe:=flatL_len (deep+1) uL
     refine kx (l1.length:Int) (n:Int) (by omega) ?_
     refine rs [21] 60 0 ?_
     refine gI 54 56 cap l1.length hsl0 hin ?_
     refine rs [21] 60 0 ?_
     refine gD 56 9 (yL uK us uo ut uv un uf uk.length ug uj uB.length uh ui uL.length uw) l1.length 0 hsl0 rfl hcell ?_
     refine rs [21] 60 0 ?_
     refine good_app (t:=138) (e:=141) (.slg (gz+1) 0 1 10) 10 144 gz (flatL deep l1).length 0 xk X ob [nI uK,nT us,.int .u8 uo,.int .u8 ut,.int .u64 uv,nT un,.slice uf uk.length ug,.slice uj uB.length uh,.slice ui uL.length uw,nI (deep:Int)] [5,13] (by kernel_rfl) (by kernel_rfl) (by kernel_rfl) (by kernel_rfl) hrow (by kernel_rfl) (by kernel_rfl) (by kernel_rfl)
      (by unfold maxLen;omega) (by omega) (hγ0 _ (by omega)) (by kernel_rfl) (by kernel_rfl) (by kernel_rfl) (by kernel_rfl) (by kernel_rfl) (fun X2 ob2 hrow2=>?_)
     rcases hrow2.2 with ⟨_,_,h0⟩ | ⟨rfl,rfl⟩
     · omega
     have hx2:LsAt (PlAt F w5) (flatL deep l1++[((St.mk uK us (Ex.mk uo ut uv un uk) uB uL),deep)]) (xk++[nI uK,nT us,.int .u8 uo,.int .u8 ut,.int .u64 uv,nT un,.slice uf uk.length ug,.slice uj uB.length uh,.slice ui uL.length uw,nI (deep:Int)]):=hxk.snoc (e:=((St.mk uK us (Ex.mk uo ut uv un uk) uB uL),deep)) (c:=[nI uK,nT us,.int .u8 uo,.int .u8 ut,.int .u64 uv,nT un,.slice uf uk.length ug,.slice uj uB.length uh,.slice ui uL.length uw,nI (deep:Int)]) ⟨(yL uK us uo ut uv un uf uk.length ug uj uB.length uh ui uL.length uw),rfl,hst0⟩
     refine rs [30] 60 0 ?_
     refine gI 54 56 cap l1.length hsl0 hin ?_
     refine rs [30] 60 0 ?_
     refine gL 54 (.slice uj uB.length uh) l1.length 7 hsl0 (hcell 7 _ rfl) ?_
     refine rs [30] 60 0 ?_
     refine gS 29 (x:=nI (wrapF .i64 ((deep:Int)+1))) (nI (((deep+1:Nat):Int))) (by rw [wr64 (n:=(deep:Int)+1) (by omega) (by omega)];rfl) ?_
     refine good_callM (sy_cx _ _) [.slice uj uB.length uh,nI ((deep+1:Nat):Int)] (by kernel_rfl) (by kernel_rfl) (by kernel_rfl) (Pr:=fun W r W'=>PlPr F (flatL (deep+1) uB) W r W') (fun W hk=>ihN uB uj uB.length uh _ (deep+1) W rfl (by omega) (by omega) (fun k h=>hN.lt' hk k (hFB k h)) (uhbs.keep (hk.mono hFB)) (uhbt.keep (hk.mono hFB) (fun k h=>h))) ?_
     rintro V6 r6 w6 B6 hkV6 ⟨a6,cap6,xs6,rfl,hsr6,hpl6⟩ hbl6 hk6 hB6i hBn6 hB6
     have hN6:=hN.step hk6 hB6i hB6
     have hFB6:∀ k,F k→B6 k:=fun k h=>hB6i k (hFB k h)
     have hsl6:=(hsl0.keep hk6).mono hB6i
     have hF6:=hk6.mono hFB
     have hy6:=pl_app hx2 hF6 hpl6
     have hs6:=uhls.keep hF6
     have ht6:=uhlt.keep hF6 (fun k h=>h)
     refine rs [31] 60 0 ?_
     refine good_appS (t:=138) (e:=141) 10 144 gz ((flatL deep l1).length+(0+1)) (flatL (deep+1) uB).length (xk++[nI uK,nT us,.int .u8 uo,.int .u8 ut,.int .u64 uv,nT un,.slice uf uk.length ug,.slice uj uB.length uh,.slice ui uL.length uw,nI (deep:Int)]) (.slg gz 0 ((flatL deep l1).length+(0+1)) 10) (some (.row 141 (xk++[nI uK,nT us,.int .u8 uo,.int .u8 ut,.int .u64 uv,nT un,.slice uf uk.length ug,.slice uj uB.length uh,.slice ui uL.length uw,nI (deep:Int)]))) a6 cap6 (xs6) [5,21,22] (by kernel_rfl) (by kernel_rfl) (by kernel_rfl) (by kernel_rfl) (by kernel_rfl) hrow2 (by kernel_rfl) hsr6 (fun k h=>hBn6 k h.1 h.2) (fun k h=>h.2) (PlAt.one hpl6) (by omega) (hγ0 _ (by omega)) (by kernel_rfl) (by kernel_rfl) (by kernel_rfl) (by kernel_rfl) (by kernel_rfl) (fun X6 ob6 hrow6=>?_)
     rcases hrow6.2 with ⟨_,_,h0⟩ | ⟨rfl,rfl⟩
     · omega
     refine rs [40] 60 0 ?_
     refine gI 54 56 cap l1.length hsl6 hin ?_
     refine rs [40] 60 0 ?_
     refine gL 54 (.slice ui uL.length uw) l1.length 8 hsl6 (hcell 8 _ rfl) ?_
     refine rs [40] 60 0 ?_
     refine gS 39 (x:=nI (wrapF .i64 ((deep:Int)+1))) (nI (((deep+1:Nat):Int))) (by rw [wr64 (n:=(deep:Int)+1) (by omega) (by omega)];rfl) ?_
     refine good_callM (sy_cx _ _) [.slice ui uL.length uw,nI ((deep+1:Nat):Int)] (by kernel_rfl) (by kernel_rfl) (by kernel_rfl) (Pr:=fun W r W'=>PlPr F (flatL (deep+1) uL) W r W') (fun W hk=>ihN uL ui uL.length uw _ (deep+1) W rfl (by omega) (by omega) (fun k h=>hN6.lt' hk k (hFB6 k h)) (hs6.keep (hk.mono hFB6)) (ht6.keep (hk.mono hFB6) (fun k h=>h))) ?_
     rintro V7 r7 w7 B7 hkV7 ⟨a7,cap7,xs7,rfl,hsr7,hpl7⟩ hbl7 hk7 hB7i hBn7 hB7
     have hN7:=hN6.step hk7 hB7i hB7
     have hFB7:∀ k,F k→B7 k:=fun k h=>hB7i k (hFB6 k h)
     have hsl7:=(hsl6.keep hk7).mono hB7i
     have hF7:=hk7.mono hFB6
     have hy7:=pl_app hy6 hF7 hpl7
     refine rs [41] 60 0 ?_
     refine good_appS (t:=138) (e:=141) 10 144 gz (((flatL deep l1).length+(0+1))+(flatL (deep+1) uB).length) (flatL (deep+1) uL).length (xk++[nI uK,nT us,.int .u8 uo,.int .u8 ut,.int .u64 uv,nT un,.slice uf uk.length ug,.slice uj uB.length uh,.slice ui uL.length uw,nI (deep:Int)]++xs6) (.slg gz 0 (((flatL deep l1).length+(0+1))+(flatL (deep+1) uB).length) 10) (some (.row 141 (xk++[nI uK,nT us,.int .u8 uo,.int .u8 ut,.int .u64 uv,nT un,.slice uf uk.length ug,.slice uj uB.length uh,.slice ui uL.length uw,nI (deep:Int)]++xs6))) a7 cap7 (xs7) [5,31,32] (by kernel_rfl) (by kernel_rfl) (by kernel_rfl) (by kernel_rfl) (by kernel_rfl) hrow6 (by kernel_rfl) hsr7 (fun k h=>hBn7 k h.1 h.2) (fun k h=>h.2) (PlAt.one hpl7) (by omega) (hγ0 _ (by omega)) (by kernel_rfl) (by kernel_rfl) (by kernel_rfl) (by kernel_rfl) (by kernel_rfl) (fun X7 ob7 hrow7=>?_)
     rcases hrow7.2 with ⟨_,_,h0⟩ | ⟨rfl,rfl⟩
     · omega
     refine rk ?_
     refine gJ 6 l1 (St.mk uK us (Ex.mk uo ut uv un uk) uB uL) (by omega) ?_
     have e1:flatL deep (l1++[(St.mk uK us (Ex.mk uo ut uv un uk) uB uL)])=flatL deep l1++[((St.mk uK us (Ex.mk uo ut uv un uk) uB uL),deep)]++flatL (deep+1) uB++flatL (deep+1) uL:=by rw [flatL_app];simp [flatL,flatS]
     have e2:(flatL deep (l1++[(St.mk uK us (Ex.mk uo ut uv un uk) uB uL)])).length=((((flatL deep l1).length+(0+1))+(flatL (deep+1) uB).length)+(flatL (deep+1) uL).length):=by rw [e1];simp only [List.length_append,List.length_cons,List.length_nil]
     have hr2:RowAt 141 10 gz (flatL deep (l1++[(St.mk uK us (Ex.mk uo ut uv un uk) uB uL)])).length (xk++[nI uK,nT us,.int .u8 uo,.int .u8 ut,.int .u64 uv,nT un,.slice uf uk.length ug,.slice uj uB.length uh,.slice ui uL.length uw,nI (deep:Int)]++xs6++xs7) (.slg gz 0 ((((flatL deep l1).length+(0+1))+(flatL (deep+1) uB).length)+(flatL (deep+1) uL).length) 10) (some (.row 141 (xk++[nI uK,nT us,.int .u8 uo,.int .u8 ut,.int .u64 uv,nT un,.slice uf uk.length ug,.slice uj uB.length uh,.slice ui uL.length uw,nI (deep:Int)]++xs6++xs7))):=by rw [e2];exact hrow7
     have hxx:LsAt (PlAt F w7) (flatL deep (l1++[(St.mk uK us (Ex.mk uo ut uv un uk) uB uL)])) (xk++[nI uK,nT us,.int .u8 uo,.int .u8 ut,.int .u64 uv,nT un,.slice uf uk.length ug,.slice uj uB.length uh,.slice ui uL.length uw,nI (deep:Int)]++xs6++xs7):=by rw [e1];exact hy7
     exact good_sub _ [(0,vL a n cap),(1,vI (deep:Int)),(5,.slg gz 0 ((((flatL deep l1).length+(0+1))+(flatL (deep+1) uB).length)+(flatL (deep+1) uL).length) 10),(6,vI ((l1++[(St.mk uK us (Ex.mk uo ut uv un uk) uB uL)]).length:Int))] [(gz,some (.row 141 (xk++[nI uK,nT us,.int .u8 uo,.int .u8 ut,.int .u64 uv,nT un,.slice uf uk.length ug,.slice uj uB.length uh,.slice ui uL.length uw,nI (deep:Int)]++xs6++xs7)))] (gz+1) (by kernel_rfl) (by kernel_rfl) (by kernel_rfl) (allLtT_cons (by kernel_rfl) (allLtT_cons (by kernel_rfl) (allLtT_cons (by kernel_rfl) (allLtT_cons (by kernel_rfl) rfl)))) (by kernel_rfl) (allLtH_cons (by kernel_rfl) (by kernel_rfl) rfl) (fun b hb=>hγ0 b (by omega)) (by kernel_rfl) (ih ⟨l1++[(St.mk uK us (Ex.mk uo ut uv un uk) uB uL)],l3,xk++[nI uK,nT us,.int .u8 uo,.int .u8 ut,.int .u64 uv,nT un,.slice uf uk.length ug,.slice uj uB.length uh,.slice ui uL.length uw,nI (deep:Int)]++xs6++xs7,.slg gz 0 ((((flatL deep l1).length+(0+1))+(flatL (deep+1) uB).length)+(flatL (deep+1) uL).length) 10,some (.row 141 (xk++[nI uK,nT us,.int .u8 uo,.int .u8 ut,.int .u64 uv,nT un,.slice uf uk.length ug,.slice uj uB.length uh,.slice ui uL.length uw,nI (deep:Int)]++xs6++xs7))⟩ B7 w7 ⟨by show L=(l1++[_])++l3;rw [hsp];simp,hxx,hr2,hN7⟩ lS1)
end
section
def stw (x:St×Nat):Nat:=1+wgt x.1.ex
theorem stw_mk (k:Int) (n:List UInt8) (e:Ex) (b l:List St) (d:Nat):stw (.mk k n e b l,d)=1+wgt e:=rfl
theorem flat_sum (d:Nat):∀ l:List St,sumN stw (flatL d l)=swts l
 | []=>rfl
 | .mk k n e b l::r=>by
   have h1:=flat_sum (d+1) b
   have h2:=flat_sum (d+1) l
   have h3:=flat_sum d r
   simp only [flatL,flatS,sumN_app,sumN,swts,swt,h1,h2,h3,stw_mk]
   omega
termination_by l=>swts l
decreasing_by all_goals simp only [swts,swt];have:=wgt_pos e;omega
theorem nmS_mk (k:Int) (n:List UInt8) (e:Ex) (b l:List St):nmS (.mk k n e b l)=n::nmE e:=rfl
theorem flM_len:∀ l:List (St×Nat),(l.flatMap fun x=>nmS x.1).length≤sumN stw l
 | []=>Nat.le_refl _
 | (.mk k n e b q,d)::l=>by
   have h1:=flM_len l
   have h2:=nmE_len e
   simp only [List.flatMap_cons,List.length_append,sumN,nmS_mk,List.length_cons,stw_mk]
   omega
theorem nmT_len (t:Th):(nmT t).length≤thw t:=by
 have h1:=flM_len (flatL 0 t.body)
 rw [flat_sum] at h1
 simp only [nmT,thw,List.length_cons,List.length_append,List.length_map]
 omega
theorem nmTs_len:∀ l:List Th,(l.flatMap nmT).length≤thws l
 | []=>Nat.le_refl _
 | t::l=>by
   have h1:=nmTs_len l
   have h2:=nmT_len t
   simp only [List.flatMap_cons,List.length_append,thws]
   omega
theorem sumN_three {α:Type} (μ:α→Nat) {p l1 l3:List α} {x:α} (h:p=l1++x::l3):sumN μ p=sumN μ l1+(μ x+sumN μ l3):=by
 rw [h,sumN_app]
 rfl
theorem texts_cells:∀ {l:List (List UInt8)} {xs:List Value},LsAt TxAt l xs→xs=strsV l
 | [],xs,h=>h
 | s::l,xs,⟨c,r,h1,h2,h3⟩=>by
   have h2:c=[.string (str s)]:=h2
   rw [h1,h2,texts_cells h3]
   rfl
open Go.Sy in
set_option maxRecDepth 100000 in
theorem dallnames_any (p:Pg) {pa pb pd:Option Addr} {vn qm qt qc qd qe:Nat} {xs ys zs:List Value} (w:World) (hpns:vn=p.shared.length) (hpnm:qm=p.mutexes.length) (hpnt:qt=p.threads.length) (hbd:qt≤1000000000000)
  (hxs:SlAt (·<w.heap.size) w pa vn 3 xs) (hxt:LsAt VrAt p.shared xs) (hys:SlAt (·<w.heap.size) w pb qm 1 ys) (hyt:LsAt TxAt p.mutexes ys) (hzs:SlAt (·<w.heap.size) w pd qt 3 zs) (hzt:LsAt (ThAt (·<w.heap.size) w) p.threads zs) (hbw:thws p.threads≤10000000000) (hbs:vn≤10000000000∧qm≤10000000000):
  Calls Tryz.prog 41 #[.agg #[.slice pa vn qc,.slice pb qm qd,.slice pd qt qe]] w fun r w'=>∃ v,r = .returned v∧NmPr (nmP p) w v w'∧Below w.heap.size w w':=by
 refine eN [.agg #[.slice pa vn qc,.slice pb qm qd,.slice pd qt qe]] Tryz.func41 (fun γ0 hγ0=>?_)
 have hγ0:∀ b,gz≤b→γ0 b=none:=hγ0
 have hN:WkI w (·<w.heap.size) w := .refl w
 refine rk ?_
 refine good_toLp ?_
 refine good_loopI (fun i:CI Vr=>i.l2.length) (fun i=>p.shared=i.l1++i.l2∧RowAt 9 1 (gz+1) (i.l1.map (fun v:Vr=>v.name)).length (strsV (i.l1.map (fun v:Vr=>v.name))) i.X i.ob) (fun i=>⟨mkT [(1,.ptr gz 0),(3,i.X),(4,vI (i.l1.length:Int))],mkH [(gz,bK 26 3 [vL pa vn qc,vL pb qm qd,vL pd qt qe]),((gz+1),i.ob)],gz+2,[]⟩)
  ⟨[],p.shared,[],vL none 0 0,none⟩ ⟨rfl,RowAt.nil _ _ _⟩ (by kernel_rfl)
  (fun h=>good_sub _ [(1,.ptr gz 0),(3,vL none 0 0),(4,vI (([]:List Vr).length:Int))] [(gz,bK 26 3 [vL pa vn qc,vL pb qm qd,vL pd qt qe]),((gz+1),none)] (gz+2) rfl (by kernel_rfl) (by kernel_rfl) (allLtT_cons (by kernel_rfl) (allLtT_cons (by kernel_rfl) (allLtT_cons (by kernel_rfl) rfl))) (by kernel_rfl) (allLtH_cons (by kernel_rfl) (by kernel_rfl) (allLtH_cons (by kernel_rfl) (by kernel_rfl) rfl)) (fun b hb=>hγ0 b (by omega)) (by kernel_rfl) h) ?_
 rintro ⟨l1,l2,xk,X,ob⟩ ⟨hsp,hrow⟩ ih
 simp only at hsp hrow
 have hn2:vn=l1.length+l2.length:=by rw [hpns,hsp,List.length_append]
 refine rk ?_
 cases l2 with
 | cons v l3=>
   have hin:l1.length<vn:=by rw [hn2,List.length_cons];omega
   have hxt2:=hxt
   rw [hsp] at hxt2
   obtain ⟨c,hc,hcell⟩:=hxt2.at_ (fun _ _ h=>VrAt.len h)
   have hc:c=[nT v.name,.int .u8 v.ty,.int .u64 v.bits]:=hc
   subst hc
   refine kx (l1.length:Int) (vn:Int) (by omega) ?_
   refine rs [24] 60 0 ?_
   refine gI 22 67 qc l1.length hxs hin ?_
   refine rs [24] 60 0 ?_
   refine gL 9 (nT v.name) l1.length 0 hxs (hcell 0 _ rfl) ?_
   refine rs [24] 60 0 ?_
   refine good_app (t:=23) (e:=9) (.slg (gz+2) 0 1 1) 1 16 (gz+1) (l1.map (fun v:Vr=>v.name)).length 0 (strsV (l1.map (fun v:Vr=>v.name))) X ob [nT v.name] [3,16] (by kernel_rfl) (by kernel_rfl) (by kernel_rfl) (by kernel_rfl) hrow (by kernel_rfl) (by kernel_rfl) (by kernel_rfl)
    (by unfold maxLen;simp only [List.length_append,List.length_map,List.length_cons,List.length_nil];omega) (by simp only [List.length_append,List.length_map,List.length_cons,List.length_nil];omega) (hγ0 _ (by omega)) (by kernel_rfl) (by kernel_rfl) (by kernel_rfl) (by kernel_rfl) (by kernel_rfl) (fun X2 ob2 hrw2=>?_)
   have hr2:RowAt 9 1 (gz+1) (l1.map (fun v:Vr=>v.name)++[v.name]).length (strsV (l1.map (fun v:Vr=>v.name)++[v.name])) X2 ob2:=by rw [strsV_app,List.length_append];exact hrw2
   refine rk ?_
   refine gJ 4 l1 v (by omega) ?_
   have hr3:RowAt 9 1 (gz+1) ((l1++[v]).map (fun v:Vr=>v.name)).length (strsV ((l1++[v]).map (fun v:Vr=>v.name))) X2 ob2:=by rw [List.map_append];exact hr2
   exact good_sub _ [(1,.ptr gz 0),(3,X2),(4,vI ((l1++[v]).length:Int))] [(gz,bK 26 3 [vL pa vn qc,vL pb qm qd,vL pd qt qe]),((gz+1),ob2)] (gz+2) (by kernel_rfl) (by kernel_rfl) (by kernel_rfl) (allLtT_cons (by kernel_rfl) (allLtT_cons (hr3.lt (by omega)) (allLtT_cons (by kernel_rfl) rfl))) (by kernel_rfl) (allLtH_cons (by kernel_rfl) (by kernel_rfl) (allLtH_row (by kernel_rfl) hr3 rfl)) (fun b hb=>hγ0 b (by omega)) (by kernel_rfl) (ih ⟨l1++[v],l3,[],X2,ob2⟩ ⟨by show p.shared=(l1++[_])++l3;rw [hsp];simp,hr3⟩ lS1)
 | nil=>
   have hn3:vn=l1.length:=by rw [hn2];simp
   have hl1:l1=p.shared:=by rw [hsp];simp
   refine ky (l1.length:Int) (vn:Int) (by omega) ?_
   refine rs [28] 60 0 ?_
   subst hl1
   rw [texts_cells hyt] at hys
   refine good_appS (t:=23) (e:=9) 1 16 (gz+1) (p.shared.map (fun v:Vr=>v.name)).length qm (strsV (p.shared.map (fun v:Vr=>v.name))) X ob pb qd (strsV (p.mutexes)) [3,25] (by kernel_rfl) (by kernel_rfl) (by kernel_rfl) (by kernel_rfl) (by kernel_rfl) hrow (by kernel_rfl) hys (fun k h=>h) (fun k h=>h) (strsV_one _) (by simp only [List.length_append,List.length_map,List.length_cons,List.length_nil];omega) (hγ0 _ (by omega)) (by kernel_rfl) (by kernel_rfl) (by kernel_rfl) (by kernel_rfl) (by kernel_rfl) (fun X2 ob2 hrw2=>?_)
   have hr2:RowAt 9 1 (gz+1) (p.shared.map (fun v:Vr=>v.name)++p.mutexes).length (strsV (p.shared.map (fun v:Vr=>v.name)++p.mutexes)) X2 ob2:=by rw [strsV_app,List.length_append,← hpnm];exact hrw2
   obtain ⟨pre,hpre⟩:∃ l,l=p.shared.map (fun v:Vr=>v.name)++p.mutexes:=⟨_,rfl⟩
   rw [← hpre] at hr2
   have hprel:pre.length=p.shared.length+p.mutexes.length:=by rw [hpre,List.length_append,List.length_map]
   refine rk ?_
   clear ih hn2 hn3 hsp hrow
   refine good_toLp ?_
   refine good_loopB (fun i:CI Th=>i.l2.length) (fun i B w1=>p.threads=i.l1++i.l2∧RowAt 9 1 (gz+1) (pre++i.l1.flatMap nmT).length (strsV (pre++i.l1.flatMap nmT)) i.X i.ob∧WkI w B w1) (fun i=>⟨mkT [(1,.ptr gz 0),(3,i.X),(5,vI (i.l1.length:Int))],mkH [(gz,bK 26 3 [vL pa vn qc,vL pb qm qd,vL pd qt qe]),((gz+1),i.ob)],gz+2,[]⟩)
    ⟨[],p.threads,[],X2,ob2⟩ ⟨rfl,by simpa using hr2,hN⟩ (by kernel_rfl)
    (fun h=>good_sub _ [(1,.ptr gz 0),(3,X2),(5,vI (([]:List Th).length:Int))] [(gz,bK 26 3 [vL pa vn qc,vL pb qm qd,vL pd qt qe]),((gz+1),ob2)] (gz+2) rfl (by kernel_rfl) (by kernel_rfl) (allLtT_cons (by kernel_rfl) (allLtT_cons (hr2.lt (by omega)) (allLtT_cons (by kernel_rfl) rfl))) (by kernel_rfl) (allLtH_cons (by kernel_rfl) (by kernel_rfl) (allLtH_row (by kernel_rfl) hr2 rfl)) (fun b hb=>hγ0 b (by omega)) (by kernel_rfl) h) ?_
   clear hN
   rintro ⟨l1,l2,xk,X,ob⟩ B5 w5 ⟨hsp,hrow,hN0⟩ ih
   simp only at hsp hrow
   have hN:WkI w B5 w5:=hN0
   clear hN0
   have hn2:qt=l1.length+l2.length:=by rw [hpnt,hsp,List.length_append]
   have hw1:thws p.threads=thws l1+thws l2:=by rw [hsp,thws_app]
   have hnl1:=nmTs_len l1
   refine rk ?_
   cases l2 with
   | nil=>
     have hn3:qt=l1.length:=by rw [hn2];simp
     have hl1:l1=p.threads:=by rw [hsp];simp
     refine ky (l1.length:Int) (qt:Int) (by omega) ?_
     refine rk ?_
     have hall:nmP p=pre++l1.flatMap nmT:=by rw [hl1,hpre];unfold nmP;rw [List.append_assoc]
     exact good_endRow (base:=w.heap.size) hrow (by kernel_rfl) (by kernel_rfl) hN.old (fun W a' cap' hk hsl=>⟨_,rfl,⟨a',cap',by rw [hall],by rw [hall];exact hsl⟩,(hN.to hk).below⟩)
   | cons th0 l3=>
     have hin:l1.length<qt:=by rw [hn2,List.length_cons];omega
     have hzt2:=hzt
     rw [hsp] at hzt2
     obtain ⟨c,hc,hcell⟩:=hzt2.at_ (fun _ _ h=>h.len)
     obtain ⟨la,lcap,lxs,lb,lcap2,lys,rfl,hls,hlt,hbs2,hbt2⟩:=hc
     obtain ⟨ln,hln⟩:∃ n,n=th0.locals.length:=⟨_,rfl⟩
     rw [← hln] at hcell hls
     have hsl0:=(hzs.keep hN.keep).mono hN.old
     have hls0:=(hls.keep hN.keep).mono hN.old
     simp only [thws,thw] at hw1
     refine kx (l1.length:Int) (qt:Int) (by omega) ?_
     refine rs [44] 60 0 ?_
     refine gI 24 58 qe l1.length hsl0 hin ?_
     refine rs [44] 60 0 ?_
     refine gL 9 (nT th0.name) l1.length 0 hsl0 (hcell 0 _ rfl) ?_
     refine rs [44] 60 0 ?_
     refine good_app (t:=23) (e:=9) (.slg (gz+2) 0 1 1) 1 16 (gz+1) (pre++l1.flatMap nmT).length 0 (strsV (pre++l1.flatMap nmT)) X ob [nT th0.name] [3,36] (by kernel_rfl) (by kernel_rfl) (by kernel_rfl) (by kernel_rfl) hrow (by kernel_rfl) (by kernel_rfl) (by kernel_rfl)
      (by unfold maxLen;simp only [List.length_append,List.length_map,List.length_cons,List.length_nil];omega) (by simp only [List.length_append,List.length_map,List.length_cons,List.length_nil];omega) (hγ0 _ (by omega)) (by kernel_rfl) (by kernel_rfl) (by kernel_rfl) (by kernel_rfl) (by kernel_rfl) (fun X2 ob2 hrw2=>?_)
     have hr2:RowAt 9 1 (gz+1) (pre++l1.flatMap nmT++[th0.name]).length (strsV (pre++l1.flatMap nmT++[th0.name])) X2 ob2:=by rw [strsV_app,List.length_append];exact hrw2
     obtain ⟨o1,ho1⟩:∃ l,l=pre++l1.flatMap nmT++[th0.name]:=⟨_,rfl⟩
     rw [← ho1] at hr2
     have ho1l:o1.length≤p.shared.length+p.mutexes.length+thws l1+1:=by rw [ho1,List.length_append,List.length_append,hprel,List.length_singleton];omega
     refine rk ?_
     refine good_toLp ?_
     refine good_loopI (fun i:CI Vr=>i.l2.length) (fun i=>th0.locals=i.l1++i.l2∧RowAt 9 1 (gz+1) (o1++i.l1.map (fun v:Vr=>v.name)).length (strsV (o1++i.l1.map (fun v:Vr=>v.name))) i.X i.ob) (fun i=>⟨mkT [(1,.ptr gz 0),(3,i.X),(5,vI (l1.length:Int)),(6,vI (i.l1.length:Int))],mkH [(gz,bK 26 3 [vL pa vn qc,vL pb qm qd,vL pd qt qe]),((gz+1),i.ob)],gz+2,[]⟩)
      ⟨[],th0.locals,[],X2,ob2⟩ ⟨rfl,by simpa using hr2⟩ (by kernel_rfl)
      (fun h=>good_sub _ [(1,.ptr gz 0),(3,X2),(5,vI (l1.length:Int)),(6,vI (([]:List Vr).length:Int))] [(gz,bK 26 3 [vL pa vn qc,vL pb qm qd,vL pd qt qe]),((gz+1),ob2)] (gz+2) rfl (by kernel_rfl) (by kernel_rfl) (allLtT_cons (by kernel_rfl) (allLtT_cons (hr2.lt (by omega)) (allLtT_cons (by kernel_rfl) (allLtT_cons (by kernel_rfl) rfl)))) (by kernel_rfl) (allLtH_cons (by kernel_rfl) (by kernel_rfl) (allLtH_row (by kernel_rfl) hr2 rfl)) (fun b hb=>hγ0 b (by omega)) (by kernel_rfl) h) ?_
     rintro ⟨m1,m2,xk3,X3,ob3⟩ ⟨hsp3,hrow3⟩ ih3
     simp only at hsp3 hrow3
     have hm2:ln=m1.length+m2.length:=by rw [hln,hsp3,List.length_append]
     refine rk ?_
     refine gI 24 58 qe l1.length hsl0 hin ?_
     refine rk ?_
     refine gL 22 (.slice la ln lcap) l1.length 1 hsl0 (hcell 1 _ rfl) ?_
     refine rk ?_
     cases m2 with
     | cons v m3=>
       have hin3:m1.length<ln:=by rw [hm2,List.length_cons];omega
       have hxt3:=hlt
       rw [hsp3] at hxt3
       obtain ⟨c,hc3,hcell3⟩:=hxt3.at_ (fun _ _ h=>VrAt.len h)
       have hc3:c=[nT v.name,.int .u8 v.ty,.int .u64 v.bits]:=hc3
       subst hc3
       refine kx (m1.length:Int) (ln:Int) (by omega) ?_
       refine rs [68] 60 0 ?_
       refine gI 24 58 qe l1.length hsl0 hin ?_
       refine rs [68] 60 0 ?_
       refine gL 22 (.slice la ln lcap) l1.length 1 hsl0 (hcell 1 _ rfl) ?_
       refine rs [68] 60 0 ?_
       refine gI 22 67 lcap m1.length hls0 hin3 ?_
       refine rs [68] 60 0 ?_
       refine gL 9 (nT v.name) m1.length 0 hls0 (hcell3 0 _ rfl) ?_
       refine rs [68] 60 0 ?_
       refine good_app (t:=23) (e:=9) (.slg (gz+2) 0 1 1) 1 16 (gz+1) (o1++m1.map (fun v:Vr=>v.name)).length 0 (strsV (o1++m1.map (fun v:Vr=>v.name))) X3 ob3 [nT v.name] [3,56] (by kernel_rfl) (by kernel_rfl) (by kernel_rfl) (by kernel_rfl) hrow3 (by kernel_rfl) (by kernel_rfl) (by kernel_rfl)
        (by unfold maxLen;simp only [List.length_append,List.length_map,List.length_cons,List.length_nil];omega) (by simp only [List.length_append,List.length_map,List.length_cons,List.length_nil];omega) (hγ0 _ (by omega)) (by kernel_rfl) (by kernel_rfl) (by kernel_rfl) (by kernel_rfl) (by kernel_rfl) (fun X4 ob4 hrw4=>?_)
       have hr4:RowAt 9 1 (gz+1) (o1++m1.map (fun v:Vr=>v.name)++[v.name]).length (strsV (o1++m1.map (fun v:Vr=>v.name)++[v.name])) X4 ob4:=by rw [strsV_app,List.length_append];exact hrw4
       refine rk ?_
       refine gJ 6 m1 v (by omega) ?_
       have hr5:RowAt 9 1 (gz+1) (o1++(m1++[v]).map (fun v:Vr=>v.name)).length (strsV (o1++(m1++[v]).map (fun v:Vr=>v.name))) X4 ob4:=by rw [List.map_append,← List.append_assoc];exact hr4
       exact good_sub _ [(1,.ptr gz 0),(3,X4),(5,vI (l1.length:Int)),(6,vI ((m1++[v]).length:Int))] [(gz,bK 26 3 [vL pa vn qc,vL pb qm qd,vL pd qt qe]),((gz+1),ob4)] (gz+2) (by kernel_rfl) (by kernel_rfl) (by kernel_rfl) (allLtT_cons (by kernel_rfl) (allLtT_cons (hr5.lt (by omega)) (allLtT_cons (by kernel_rfl) (allLtT_cons (by kernel_rfl) rfl)))) (by kernel_rfl) (allLtH_cons (by kernel_rfl) (by kernel_rfl) (allLtH_row (by kernel_rfl) hr5 rfl)) (fun b hb=>hγ0 b (by omega)) (by kernel_rfl) (ih3 ⟨m1++[v],m3,[],X4,ob4⟩ ⟨by show th0.locals=(m1++[_])++m3;rw [hsp3];simp,hr5⟩ lS1)
     | nil=>
       have hm3:ln=m1.length:=by rw [hm2];simp
       have hl3:m1=th0.locals:=by rw [hsp3];simp
       refine ky (m1.length:Int) (ln:Int) (by omega) ?_
       refine rk ?_
       subst hl3
       refine gI 24 58 qe l1.length hsl0 hin ?_
       refine rk ?_
       refine gL 54 (.slice lb th0.body.length lcap2) l1.length 2 hsl0 (hcell 2 _ rfl) ?_
       refine rs [75] 60 0 ?_
       clear ih3 hm2 hm3 hsp3
       obtain ⟨o2,ho2⟩:∃ l,l=o1++th0.locals.map (fun v:Vr=>v.name):=⟨_,rfl⟩
       rw [← ho2] at hrow3
       have ho2l:o2.length=o1.length+ln:=by rw [ho2,List.length_append,List.length_map,hln]
       refine good_callM (sy_cx _ _) [.slice lb th0.body.length lcap2,nI ((0:Nat):Int)] (by kernel_rfl) (by kernel_rfl) (by kernel_rfl) (Pr:=fun W r W'=>PlPr (·<w.heap.size) (flatL 0 th0.body) W r W') (fun W hk=>dstmts_any (·<w.heap.size) _ th0.body lb th0.body.length lcap2 lys 0 W rfl (Nat.lt_succ_self _) (by omega) (hN.up hk) (hbs2.keep (hN.to hk)) (hbt2.keep (hN.to hk) (fun k h=>h))) ?_
       rintro V6 r6 w6 B6 hkV6 ⟨a6,cap6,xs6,rfl,hsr6,hpl6⟩ hbl6 hk6 hB6i hBn6 hB6
       have hN6:=hN.step hk6 hB6i hB6
       have hsr7:SlAt B6 w6 a6 (flatL 0 th0.body).length 10 xs6:=hsr6.mono fun k h=>hBn6 k h.1 h.2
       obtain ⟨qn,hqn⟩:∃ n,n=(flatL 0 th0.body).length:=⟨_,rfl⟩
       rw [← hqn] at hsr7 ⊢
       refine rk ?_
       refine good_toLp ?_
       refine good_loopB (fun i:CI (St×Nat)=>i.l2.length) (fun i B w1=>flatL 0 th0.body=i.l1++i.l2∧RowAt 9 1 (gz+1) (o2++i.l1.flatMap (fun x:St×Nat=>nmS x.1)).length (strsV (o2++i.l1.flatMap (fun x:St×Nat=>nmS x.1))) i.X i.ob∧WkI w B w1∧SlAt B w1 a6 qn 10 xs6∧LsAt (PlAt (·<w.heap.size) w1) (flatL 0 th0.body) xs6) (fun i=>⟨mkT [(1,.ptr gz 0),(3,i.X),(5,vI (l1.length:Int)),(7,vL a6 qn cap6),(8,vI (i.l1.length:Int))],mkH [(gz,bK 26 3 [vL pa vn qc,vL pb qm qd,vL pd qt qe]),((gz+1),i.ob)],gz+2,[]⟩)
        ⟨[],flatL 0 th0.body,[],X3,ob3⟩ ⟨rfl,by simpa using hrow3,hN6,hsr7,hpl6⟩ (by kernel_rfl)
        (fun h=>good_sub _ [(1,.ptr gz 0),(3,X3),(5,vI (l1.length:Int)),(7,vL a6 qn cap6),(8,vI (([]:List (St×Nat)).length:Int))] [(gz,bK 26 3 [vL pa vn qc,vL pb qm qd,vL pd qt qe]),((gz+1),ob3)] (gz+2) rfl (by kernel_rfl) (by kernel_rfl) (allLtT_cons (by kernel_rfl) (allLtT_cons (hrow3.lt (by omega)) (allLtT_cons (by kernel_rfl) (allLtT_cons (by kernel_rfl) (allLtT_cons (by kernel_rfl) rfl))))) (by kernel_rfl) (allLtH_cons (by kernel_rfl) (by kernel_rfl) (allLtH_row (by kernel_rfl) hrow3 rfl)) (fun b hb=>hγ0 b (by omega)) (by kernel_rfl) h) ?_
       rintro ⟨q1,q2,xk4,X4,ob4⟩ B7 w7 ⟨hsp4,hrow4,hN70,hsl7,hpl7⟩ ih4
       simp only at hsp4 hrow4
       have hN7:WkI w B7 w7:=hN70
       clear hN70
       have hq2:qn=q1.length+q2.length:=by rw [hqn,hsp4,List.length_append]
       have hfs:=flat_sum 0 th0.body
       have hq1l:=flM_len q1
       have hq1n:=len_sumN (μ:=stw) (fun x=>by unfold stw;omega) q1
       refine rk ?_
       cases q2 with
       | cons x q3=>
         have hin4:q1.length<qn:=by rw [hq2,List.length_cons];omega
         have hpl8:=hpl7
         rw [hsp4] at hpl8
         obtain ⟨c,hc4,hcell4⟩:=hpl8.at_ (fun _ _ h=>h.len)
         obtain ⟨sx,sd⟩:=x
         obtain ⟨uK,us,⟨uo,ut,uv,un,uk⟩,uB,uL⟩:=sx
         obtain ⟨sc,rfl,hst4⟩:=hc4
         simp only [StAt] at hst4
         obtain ⟨ucs,uj,uh,ubx,ui,uw,ulx,rfl,uhe,_,_,_,_⟩:=hst4
         have uhe0:=uhe
         simp only [ExAt] at uhe0
         obtain ⟨uf,ug,uex,rfl,_⟩:=uhe0
         have hcell4:∀ j v,([nI uK,nT us,.int .u8 uo,.int .u8 ut,.int .u64 uv,nT un,.slice uf uk.length ug,.slice uj uB.length uh,.slice ui uL.length uw,nI (sd:Int)]:List Value)[j]?=some v→xs6[q1.length*10+j]?=some v:=hcell4
         have umid:∀ j v,((xL uo ut uv un uf uk.length ug):List Value)[j]?=some v→xs6[q1.length*10+2+j]?=some v:=cell_part hcell4 2 (mid_get [_,_] (xL uo ut uv un uf uk.length ug) [_,_,_])
         have hs3:=sumN_three stw hsp4
         rw [hfs] at hs3
         simp only [stw_mk] at hs3
         have hen:=nmE_len (Ex.mk uo ut uv un uk)
         have hst4:True:=trivial
         refine kx (q1.length:Int) (qn:Int) (by omega) ?_
         refine rk ?_
         refine good_plan sy_mixed (.take 0 (.take 1 (.take 2 (.take 3 (.take 4 (.take 5 (.take 6 (.take 9 (.take 10 (.take 11 (.take 12 (.take 13 (.take 14 (.run 7 (.run 8 (.run 15 (.run 16 .done))))))))))))))))) 17 (by kernel_rfl) ?_
         have hL0:∀ b,hasNat b ([]:List Nat)=true→∃ p,γ0 b=some p∧B7 p.1:=fun b hb=>by cases hb
         refine p_takes [] 3 (Bs:=B7) (ws:=w7) (by kernel_rfl) (fun _ h=>h) hL0 ?_
         refine p_val (.pointer (some ⟨gB a6,oB a6+q1.length*10,none⟩)) (S:=Instr.indexAt 138 (.slice a6 qn cap6) (nI (q1.length:Int))) (Bs:=B7) (ws:=w7) (by kernel_rfl) (by kernel_rfl) (fun _ h=>h) (fun W _=>idx_sl (e:=141) hsl7 (by kernel_rfl) (by kernel_rfl) hin4 W) ?_
         refine p_takes [] 2 (Bs:=B7) (ws:=w7) (by kernel_rfl) (fun _ h=>h) hL0 ?_
         refine p_val (nT us) (S:=Instr.loadAt 9 (.pointer (some ⟨gB a6,oB a6+q1.length*10+1,none⟩))) (Bs:=B7) (ws:=w7) (by kernel_rfl) (by kernel_rfl) (fun _ h=>h) (fun W hk=>load_sl hsl7 (by kernel_rfl) q1.length 1 (hcell4 1 _ rfl) hk) ?_
         refine p_takes [] 2 (Bs:=B7) (ws:=w7) (by kernel_rfl) (fun _ h=>h) hL0 ?_
         refine p_val (.pointer (some ⟨gB a6,oB a6+q1.length*10,none⟩)) (S:=Instr.indexAt 138 (.slice a6 qn cap6) (nI (q1.length:Int))) (Bs:=B7) (ws:=w7) (by kernel_rfl) (by kernel_rfl) (fun _ h=>h) (fun W _=>idx_sl (e:=141) hsl7 (by kernel_rfl) (by kernel_rfl) hin4 W) ?_
         refine p_takes [] 2 (Bs:=B7) (ws:=w7) (by kernel_rfl) (fun _ h=>h) hL0 ?_
         refine p_val (xV uo ut uv un uf uk.length ug) (S:=Instr.loadAt 34 (.pointer (some ⟨gB a6,oB a6+q1.length*10+2,none⟩))) (Bs:=B7) (ws:=w7) (by kernel_rfl) (by kernel_rfl) (fun _ h=>h) (fun W hk=>load_slA (P:=Tryz.prog) (ty:=34) (m:=5) (cs:=(xL uo ut uv un uf uk.length ug)) hsl7 (by kernel_rfl) (by kernel_rfl) q1.length 2 rfl umid hk) ?_
         refine pR (Keep B7 w7) (fun _ h=>h) ?_
         refine rk ?_
         refine pR (Keep B7 w7) (fun _ h=>h) ?_
         refine good_app (t:=23) (e:=9) (.slg (gz+2) 0 1 1) 1 16 (gz+1) (o2++q1.flatMap (fun x:St×Nat=>nmS x.1)).length 0 (strsV (o2++q1.flatMap (fun x:St×Nat=>nmS x.1))) X4 ob4 [nT us] [3,82] (by kernel_rfl) (by kernel_rfl) (by kernel_rfl) (by kernel_rfl) hrow4 (by kernel_rfl) (by kernel_rfl) (by kernel_rfl)
          (by unfold maxLen;simp only [List.length_append,List.length_map,List.length_cons,List.length_nil];omega) (by simp only [List.length_append,List.length_map,List.length_cons,List.length_nil];omega) (hγ0 _ (by omega)) (by kernel_rfl) (by kernel_rfl) (by kernel_rfl) (by kernel_rfl) (by kernel_rfl) (fun X8 ob8 hrw8=>?_)
         have hr8:RowAt 9 1 (gz+1) (o2++q1.flatMap (fun x:St×Nat=>nmS x.1)++[us]).length (strsV (o2++q1.flatMap (fun x:St×Nat=>nmS x.1)++[us])) X8 ob8:=by rw [strsV_app,List.length_append];exact hrw8
         refine rk ?_
         refine pR (Keep B7 w7) (fun _ h=>h) ?_
         refine good_callM (sy_cx _ _) [xV uo ut uv un uf uk.length ug] (by kernel_rfl) (by kernel_rfl) (by kernel_rfl) (Pr:=fun W r W'=>NmPr (nmE (Ex.mk uo ut uv un uk)) W r W') (fun W hk=>dnames_any _ (Ex.mk uo ut uv un uk) (xL uo ut uv un uf uk.length ug) W (Nat.le_refl _) (by omega) (uhe.keep (hk.mono hN7.old) (hN7.up hk))) ?_
         rintro V9 r9 w9 B9 hkV9 ⟨a9,cap9,rfl,hsr9⟩ hbl9 hk9 hB9i hBn9 hB9
         have hN9:=hN7.step hk9 hB9i hB9
         have hS9:∀ W,Keep B9 w9 W→Keep B7 w7 W:=fun W hk=>hk9.trans (hk.mono hB9i)
         refine rk ?_
         refine pR (Keep B7 w7) hS9 ?_
         refine good_appS (t:=23) (e:=9) 1 16 (gz+1) (o2++q1.flatMap (fun x:St×Nat=>nmS x.1)++[us]).length (nmE (Ex.mk uo ut uv un uk)).length (strsV (o2++q1.flatMap (fun x:St×Nat=>nmS x.1)++[us])) X8 ob8 a9 cap9 (strsV (nmE (Ex.mk uo ut uv un uk))) [90] (by kernel_rfl) (by kernel_rfl) (by kernel_rfl) (by kernel_rfl) (by kernel_rfl) hr8 (by kernel_rfl) hsr9 (fun k h=>hBn9 k h.1 h.2) (fun k h=>h.2) (strsV_one _) (by simp only [List.length_append,List.length_map,List.length_cons,List.length_nil];omega) (hγ0 _ (by omega)) (by kernel_rfl) (by kernel_rfl) (by kernel_rfl) (by kernel_rfl) (by kernel_rfl) (fun X9 ob9 hrw9=>?_)
         have hr9:RowAt 9 1 (gz+1) (o2++q1.flatMap (fun x:St×Nat=>nmS x.1)++[us]++nmE (Ex.mk uo ut uv un uk)).length (strsV (o2++q1.flatMap (fun x:St×Nat=>nmS x.1)++[us]++nmE (Ex.mk uo ut uv un uk))) X9 ob9:=by rw [strsV_app,List.length_append];exact hrw9
         refine rk ?_
         refine p_done (by kernel_rfl) ?_ (Keep B7 w7) (by kernel_rfl) hS9
         refine rk ?_
         refine gJ 8 q1 ((St.mk uK us (Ex.mk uo ut uv un uk) uB uL),sd) (by omega) ?_
         have hr10:RowAt 9 1 (gz+1) (o2++(q1++[((St.mk uK us (Ex.mk uo ut uv un uk) uB uL),sd)]).flatMap (fun x:St×Nat=>nmS x.1)).length (strsV (o2++(q1++[((St.mk uK us (Ex.mk uo ut uv un uk) uB uL),sd)]).flatMap (fun x:St×Nat=>nmS x.1))) X9 ob9:=by
          have e:o2++(q1++[((St.mk uK us (Ex.mk uo ut uv un uk) uB uL),sd)]).flatMap (fun x:St×Nat=>nmS x.1)=o2++q1.flatMap (fun x:St×Nat=>nmS x.1)++[us]++nmE (Ex.mk uo ut uv un uk):=by rw [List.flatMap_append];simp [nmS_mk]
          rw [e];exact hr9
         exact good_sub _ [(1,.ptr gz 0),(3,X9),(5,vI (l1.length:Int)),(7,vL a6 qn cap6),(8,vI ((q1++[((St.mk uK us (Ex.mk uo ut uv un uk) uB uL),sd)]).length:Int))] [(gz,bK 26 3 [vL pa vn qc,vL pb qm qd,vL pd qt qe]),((gz+1),ob9)] (gz+2) (by kernel_rfl) (by kernel_rfl) (by kernel_rfl) (allLtT_cons (by kernel_rfl) (allLtT_cons (hr10.lt (by omega)) (allLtT_cons (by kernel_rfl) (allLtT_cons (by kernel_rfl) (allLtT_cons (by kernel_rfl) rfl))))) (by kernel_rfl) (allLtH_cons (by kernel_rfl) (by kernel_rfl) (allLtH_row (by kernel_rfl) hr10 rfl)) (fun b hb=>hγ0 b (by omega)) (by kernel_rfl) (ih4 ⟨q1++[((St.mk uK us (Ex.mk uo ut uv un uk) uB uL),sd)],q3,[],X9,ob9⟩ B9 w9 ⟨by show flatL 0 th0.body=(q1++[_])++q3;rw [hsp4];simp,hr10,hN9,(hsl7.keep hk9).mono hB9i,hpl7.imp fun _ _ h=>PlAt.keep (hk9.mono hN7.old) (fun k h=>h) h⟩ lS1)
       | nil=>
         have hq3:qn=q1.length:=by rw [hq2];simp
         have hl4:q1=flatL 0 th0.body:=by rw [hsp4];simp
         refine ky (q1.length:Int) (qn:Int) (by omega) ?_
         refine rk ?_
         refine gJ 5 l1 th0 (by omega) ?_
         have hr10:RowAt 9 1 (gz+1) (pre++(l1++[th0]).flatMap nmT).length (strsV (pre++(l1++[th0]).flatMap nmT)) X4 ob4:=by
          have e:pre++(l1++[th0]).flatMap nmT=o2++q1.flatMap (fun x:St×Nat=>nmS x.1):=by rw [hl4,ho2,ho1,List.flatMap_append];simp [nmT]
          rw [e];exact hrow4
         exact good_sub _ [(1,.ptr gz 0),(3,X4),(5,vI ((l1++[th0]).length:Int))] [(gz,bK 26 3 [vL pa vn qc,vL pb qm qd,vL pd qt qe]),((gz+1),ob4)] (gz+2) (by kernel_rfl) (by kernel_rfl) (by kernel_rfl) (allLtT_cons (by kernel_rfl) (allLtT_cons (hr10.lt (by omega)) (allLtT_cons (by kernel_rfl) rfl))) (by kernel_rfl) (allLtH_cons (by kernel_rfl) (by kernel_rfl) (allLtH_row (by kernel_rfl) hr10 rfl)) (fun b hb=>hγ0 b (by omega)) (by kernel_rfl) (ih ⟨l1++[th0],l3,[],X4,ob4⟩ B7 w7 ⟨by show p.threads=(l1++[_])++l3;rw [hsp];simp,hr10,hN7⟩ lS1)
end
section
section
variable {φ:List UInt8→List UInt8}
def RV (φ:List UInt8→List UInt8) (v v':Value):Prop:=v'=v∨∃ s:List UInt8,v = .string (str s)∧v' = .string (str (φ s))
theorem str_inj {a b:List UInt8} (h:str a=str b):a=b:=by
 have:=congrArg (fun x:ByteArray=>x.data.toList) h
 simpa [str] using this
theorem RV.refl (v:Value):RV φ v v := .inl rfl
theorem RV.trans (hi:∀ s,φ (φ s)=φ s) {u v x:Value} (h:RV φ u v) (h':RV φ v x):RV φ u x:=by
 rcases h with rfl | ⟨s,rfl,rfl⟩
 · exact h'
 · rcases h' with rfl | ⟨s',e,rfl⟩
   · exact .inr ⟨s,rfl,rfl⟩
   · injection e with e
     have e:=str_inj e
     exact .inr ⟨s,rfl,by rw [← e,hi]⟩
theorem RV.int {k:IntKind} {a:Int} {v:Value} (h:RV φ (.int k a) v):v = .int k a:=by
 rcases h with rfl | ⟨s,e,rfl⟩
 · rfl
 · cases e
theorem RV.sl {a:Option Addr} {n c:Nat} {v:Value} (h:RV φ (.slice a n c) v):v = .slice a n c:=by
 rcases h with rfl | ⟨s,e,rfl⟩
 · rfl
 · cases e
theorem RV.str {s:List UInt8} {v:Value} (h:RV φ (.string (str s)) v):v = .string (Go.As.str s)∨v = .string (Go.As.str (φ s)):=by
 rcases h with rfl | ⟨s',e,rfl⟩
 · exact .inl rfl
 · injection e with e
   rw [str_inj e]
   exact .inr rfl
def TR (φ:List UInt8→List UInt8) (F:Nat→Prop) (w w':World):Prop:=
 ∀ k c e,F k→w.heap[k]?=some (.cells c e (0,0))→∃ c':Array Value,w'.heap[k]?=some (.cells c' e (0,0))∧c'.size=c.size∧∀ (j:Nat) (v:Value),c[j]?=some v→∃ v',c'[j]?=some v'∧RV φ v v'
theorem TR.of_keep {F B:Nat→Prop} {w w':World} (h:Sy.Keep B w w') (hF:∀ k,F k→B k):TR φ F w w':=fun k c e hk hc=>⟨c,by rw [h.block k (hF k hk)];exact hc,rfl,fun j v hv=>⟨v,hv,.refl v⟩⟩
theorem TR.trans (hi:∀ s,φ (φ s)=φ s) {F:Nat→Prop} {w w1 w2:World} (h:TR φ F w w1) (h':TR φ F w1 w2):TR φ F w w2:=by
 intro k c e hF hk
 obtain ⟨c1,h1,h2,h3⟩:=h k c e hF hk
 obtain ⟨c2,h4,h5,h6⟩:=h' k c1 e hF h1
 refine ⟨c2,h4,by omega,fun j v hv=>?_⟩
 obtain ⟨v1,h7,h8⟩:=h3 j v hv
 obtain ⟨v2,h9,h10⟩:=h6 j v1 h7
 exact ⟨v2,h9,h8.trans hi h10⟩
theorem TR.soft {F:Nat→Prop} {w w':World} (h:TR φ F w w') (hF:∀ k,F k→Soft w k):∀ k,F k→Soft w' k:=fun k hk=>by
 obtain ⟨c,e,hc⟩:=hF k hk
 obtain ⟨c',h1,_⟩:=h k c e hk hc
 exact ⟨c',e,h1⟩
def RVs (φ:List UInt8→List UInt8) (xs xs':List Value):Prop:=xs'.length=xs.length∧∀ (j:Nat) (v:Value),xs[j]?=some v→∃ v',xs'[j]?=some v'∧RV φ v v'
theorem RVs.app {c r x:List Value} (h:RVs φ (c++r) x):∃ c' r',x=c'++r'∧RVs φ c c'∧RVs φ r r':=by
 obtain ⟨hl,h⟩:=h
 rw [List.length_append] at hl
 refine ⟨x.take c.length,x.drop c.length,(List.take_append_drop _ _).symm,⟨by rw [List.length_take];omega,fun j v hv=>?_⟩,⟨by rw [List.length_drop];omega,fun j v hv=>?_⟩⟩
 · have hj:=(List.getElem?_eq_some_iff.1 hv).1
   obtain ⟨v',h1,h2⟩:=h j v (by rw [List.getElem?_append_left hj];exact hv)
   exact ⟨v',by rw [List.getElem?_take,if_pos hj];exact h1,h2⟩
 · obtain ⟨v',h1,h2⟩:=h (c.length+j) v (by rw [List.getElem?_append_right (by omega)];simpa using hv)
   exact ⟨v',by rw [List.getElem?_drop];exact h1,h2⟩
theorem RVs.cons {v:Value} {r x:List Value} (h:RVs φ (v::r) x):∃ v' r',x=v'::r'∧RV φ v v'∧RVs φ r r':=by
 obtain ⟨c',r',rfl,⟨h1,h2⟩,h3⟩:=RVs.app (c:=[v]) (r:=r) h
 match c',h1 with
 | [v'],_=>
   obtain ⟨v2,h4,h5⟩:=h2 0 v rfl
   simp only [List.getElem?_cons_zero,Option.some.injEq] at h4
   subst h4
   exact ⟨v',r',rfl,h5,h3⟩
theorem RVs.nil {x:List Value} (h:RVs φ [] x):x=[]:=List.eq_nil_of_length_eq_zero h.1
theorem SlAt_turnR {F:Nat→Prop} {w w':World} {a:Option Addr} {n sz:Nat} {xs:List Value} (hF:∀ k,F k→Soft w k) (h:Sy.SlAt F w a n sz xs) (hk:TR φ F w w'):∃ xs',Sy.SlAt F w' a n sz xs'∧RVs φ xs xs':=by
 rcases h.place with h0 | ⟨ha,hFa,hc⟩
 · have:xs=[]:=List.eq_nil_of_length_eq_zero (by rw [h.len,h0,Nat.zero_mul])
   subst this
   exact ⟨[],⟨h.len,.inl h0⟩,rfl,fun j v hv=>by simp at hv⟩
 · obtain ⟨c,e,hce⟩:=hF _ hFa
   obtain ⟨c',h1,h2,h3⟩:=hk _ c e hFa hce
   have hold:∀ j v,xs[j]?=some v→c[Sy.oB a+j]?=some v:=fun j v hv=>by
    have:=hc j v hv
    simp only [World.cell?] at this
    rw [hce] at this
    simpa using this
   have key:∀ j v,xs[j]?=some v→∃ v',c'[Sy.oB a+j]?=some v'∧RV φ v v':=fun j v hv=>h3 _ v (hold j v hv)
   have hlen:xs=[]∨Sy.oB a+xs.length≤c.size:=by
    cases hx:xs.length with
    | zero=>exact .inl (List.eq_nil_of_length_eq_zero hx)
    | succ q=>
      have hq:q<xs.length:=by omega
      have:=hold q xs[q] (List.getElem?_eq_getElem hq)
      have:=(Array.getElem?_eq_some_iff.1 this).1
      exact .inr (by omega)
   obtain ⟨xs',hx'⟩:∃ l:List Value,l=(c'.toList.drop (Sy.oB a)).take xs.length:=⟨_,rfl⟩
   have hget:∀ j,j<xs.length→xs'[j]?=c'[Sy.oB a+j]?:=fun j hj=>by
    rw [hx',List.getElem?_take,if_pos hj,List.getElem?_drop]
    simp
   have hl':xs'.length=xs.length:=by
    have e1:c'.toList.length=c.size:=by rw [← h2];exact Array.length_toList
    rw [hx',List.length_take,List.length_drop,e1]
    rcases hlen with h | h
    · rw [h];simp
    · omega
   refine ⟨xs',⟨by rw [hl'];exact h.len,.inr ⟨ha,hFa,fun j v hv=>?_⟩⟩,hl',fun j v hv=>?_⟩
   · have hj:=(List.getElem?_eq_some_iff.1 hv).1
     rw [hget j (by omega)] at hv
     simp only [World.cell?]
     rw [h1]
     simpa using hv
   · have hj:=(List.getElem?_eq_some_iff.1 hv).1
     obtain ⟨v',h5,h6⟩:=key j v hv
     exact ⟨v',by rw [hget j hj];exact h5,h6⟩
theorem slAt_uniq {F F':Nat→Prop} {w:World} {a:Option Addr} {n sz:Nat} {xs ys:List Value} (h:Sy.SlAt F w a n sz xs) (h':Sy.SlAt F' w a n sz ys) (hn:0<n):xs=ys:=by
 rcases h.place with h0 | ⟨_,_,h1⟩
 · omega
 rcases h'.place with h0 | ⟨_,_,h2⟩
 · omega
 have hl:xs.length=ys.length:=by rw [h.len,h'.len]
 refine List.ext_getElem? fun j=>?_
 cases hx:xs[j]? with
 | none=>
   have:=List.getElem?_eq_none_iff.1 hx
   rw [List.getElem?_eq_none (by omega)]
 | some v=>
   have hj:=(List.getElem?_eq_some_iff.1 hx).1
   have g1:=h1 j v hx
   have hy:ys[j]?=some (ys[j]'(by omega)):=List.getElem?_eq_getElem (by omega)
   have g2:=h2 j _ hy
   rw [g1] at g2
   injection g2 with g2
   rw [hy,g2]
theorem st_ptR {P:Program} {F:Nat→Prop} {w:World} {b o sz:Nat} {xs:List Value} {ty:TypeId} (hF:∀ k,F k→Soft w k) (h:Sy.SlAt F w (some ⟨b,o,none⟩) 1 sz xs) (hz:Sy.szB P ty=some 1) (j:Nat) {s:List UInt8} (hv:xs[j]?=some (.string (str s))) {W:World} (hk:Sy.Keep F w W):
  ∃ w',(Instr.storeAt ty (.pointer (some ⟨b,o+j,none⟩)) (.string (str (φ s)))).run P W = .ok () w'∧(TR φ F W w'∧w'.cell? ⟨b,o+j,none⟩=some (.string (str (φ s))))∧Sy.Keep (fun k=>k<W.heap.size∧¬ F k) W w':=by
 rcases (h.keep hk).place with h0 | ⟨_,h1,h2⟩
 · cases h0
 have h1:F b:=h1
 obtain ⟨c,e,hc⟩:=(hF b h1).keep hk h1
 have h3:=h2 j _ hv
 simp only [Sy.gB,Sy.oB,World.cell?] at h3
 rw [hc] at h3
 have h4:c[o+j]?=some (.string (str s)):=by simpa using h3
 have hlt:=(Array.getElem?_eq_some_iff.1 h4).1
 have hcl:c.toList.length=c.size:=Array.length_toList
 refine ⟨_,store_soft hz hc hlt rfl rfl,⟨fun k c1 e1 hFk hk1=>?_,?_⟩,⟨rfl,rfl,rfl,by simp,fun k hk=>setRow_other _ _ _ _ (fun e=>hk.2 (e ▸ h1))⟩⟩
 · by_cases hkb:k=b
   · subst hkb
     rw [hc] at hk1
     injection hk1 with hk1
     injection hk1 with g1 g2
     subst g1 g2
     refine ⟨_,setRow_heap _ _ _ _ _ _ hc,?_,fun q x hx=>?_⟩
     · simp only [List.size_toArray,List.length_append,List.length_take,List.length_drop,List.length_cons,List.length_nil]
       omega
     · have hj:=(Array.getElem?_eq_some_iff.1 hx).1
       simp only [List.getElem?_toArray]
       by_cases hjo:q=o+j
       · subst hjo
         rw [h4] at hx
         injection hx with hx
         subst hx
         refine ⟨.string (str (φ s)),?_,.inr ⟨s,rfl,rfl⟩⟩
         rw [List.append_assoc,List.getElem?_append_right (by rw [List.length_take];omega)]
         simp [List.length_take,Nat.min_eq_left (Nat.le_of_lt hlt)]
       · refine ⟨x,?_,.inl rfl⟩
         rcases Nat.lt_or_ge q (o+j) with h | h
         · rw [List.append_assoc,List.getElem?_append_left (by rw [List.length_take];omega),List.getElem?_take,if_pos h]
           simpa using hx
         · rw [List.getElem?_append_right (by simp only [List.length_append,List.length_take,List.length_cons,List.length_nil];omega),List.getElem?_drop]
           simp only [List.length_append,List.length_take,List.length_cons,List.length_nil]
           rw [show o+j+1+(q - (min (o+j) c.toList.length+(0+1)))=q by omega]
           simpa using hx
   · exact ⟨c1,by rw [setRow_other _ _ _ _ hkb];exact hk1,rfl,fun j x hx=>⟨x,hx,.inl rfl⟩⟩
 · simp only [World.cell?]
   rw [setRow_heap _ _ _ _ _ _ hc]
   simp only [List.getElem?_toArray]
   rw [List.append_assoc,List.getElem?_append_right (by rw [List.length_take];omega)]
   simp [List.length_take,Nat.min_eq_left (Nat.le_of_lt hlt)]
end
def Nf (φ:List UInt8→List UInt8) (s nm:List UInt8):Prop:=nm=φ s
def Np (φ:List UInt8→List UInt8) (s nm:List UInt8):Prop:=nm=s∨nm=φ s
def NCl (φ:List UInt8→List UInt8) (N:List UInt8→List UInt8→Prop):Prop:=∀ s nm,N s nm→N s (φ nm)
theorem ncl_f {φ:List UInt8→List UInt8} (hi:∀ s,φ (φ s)=φ s):NCl φ (Nf φ):=fun s nm h=>by unfold Nf at *;rw [h,hi]
theorem ncl_p {φ:List UInt8→List UInt8} (hi:∀ s,φ (φ s)=φ s):NCl φ (Np φ):=fun s nm h=>by
 rcases h with rfl | rfl
 · exact .inr rfl
 · exact .inr (hi s)
theorem np_phi {φ:List UInt8→List UInt8} (hi:∀ s,φ (φ s)=φ s) {s nm:List UInt8} (h:Np φ s nm):φ nm=φ s:=by
 rcases h with rfl | rfl
 · rfl
 · exact hi s
mutual
def NE (N:List UInt8→List UInt8→Prop) (F:Nat→Prop) (w:World):Ex→List Value→Prop
 | .mk op ty bits name kids,cs=>∃ nm a cap xs,N name nm∧cs=[.int .u8 op,.int .u8 ty,.int .u64 bits,.string (str nm),.slice a kids.length cap]∧Sy.SlAt F w a kids.length 5 xs∧NEs N F w kids xs
def NEs (N:List UInt8→List UInt8→Prop) (F:Nat→Prop) (w:World):List Ex→List Value→Prop
 | [],xs=>xs=[]
 | e::l,xs=>∃ c r,xs=c++r∧NE N F w e c∧NEs N F w l r
end
mutual
def NSt (N:List UInt8→List UInt8→Prop) (F:Nat→Prop) (w:World):St→List Value→Prop
 | .mk kind name e body els,cs=>∃ nm ec a cap xs b cap2 ys,N name nm∧cs = .int .i64 kind :: .string (str nm)::(ec++[.slice a body.length cap,.slice b els.length cap2])∧NE N F w e ec∧Sy.SlAt F w a body.length 9 xs∧NSts N F w body xs∧Sy.SlAt F w b els.length 9 ys∧NSts N F w els ys
def NSts (N:List UInt8→List UInt8→Prop) (F:Nat→Prop) (w:World):List St→List Value→Prop
 | [],xs=>xs=[]
 | e::l,xs=>∃ c r,xs=c++r∧NSt N F w e c∧NSts N F w l r
end
def NVr (N:List UInt8→List UInt8→Prop) (v:Vr) (cs:List Value):Prop:=∃ nm,N v.name nm∧cs=[.string (str nm),.int .u8 v.ty,.int .u64 v.bits]
def NTx (N:List UInt8→List UInt8→Prop) (s:List UInt8) (cs:List Value):Prop:=∃ nm,N s nm∧cs=[.string (str nm)]
def NIt (N1 N2 N3 N4:List UInt8→List UInt8→Prop) (F:Nat→Prop) (w:World) (s:St) (cs:List Value):Prop:=match s with
 | .mk kind name e body els=>∃ nm ec a cap xs b cap2 ys,N1 name nm∧cs = .int .i64 kind :: .string (str nm)::(ec++[.slice a body.length cap,.slice b els.length cap2])∧NE N2 F w e ec∧Sy.SlAt F w a body.length 9 xs∧NSts N3 F w body xs∧Sy.SlAt F w b els.length 9 ys∧NSts N4 F w els ys
def NTh (N1 N2 N3:List UInt8→List UInt8→Prop) (F:Nat→Prop) (w:World) (t:Th) (cs:List Value):Prop:=
 ∃ nm a cap xs b cap2 ys,N1 t.name nm∧cs=[.string (str nm),.slice a t.locals.length cap,.slice b t.body.length cap2]∧Sy.SlAt F w a t.locals.length 3 xs∧LsAt (NVr N2) t.locals xs∧Sy.SlAt F w b t.body.length 9 ys∧NSts N3 F w t.body ys
theorem NEs_ls {N:List UInt8→List UInt8→Prop} {F:Nat→Prop} {w:World}:∀ {l:List Ex} {xs:List Value},NEs N F w l xs↔LsAt (NE N F w) l xs
 | [],xs=>by simp only [NEs,LsAt]
 | e::l,xs=>by
   simp only [NEs,LsAt]
   exact ⟨fun ⟨c,r,h1,h2,h3⟩=>⟨c,r,h1,h2,NEs_ls.1 h3⟩,fun ⟨c,r,h1,h2,h3⟩=>⟨c,r,h1,h2,NEs_ls.2 h3⟩⟩
theorem NSts_ls {N:List UInt8→List UInt8→Prop} {F:Nat→Prop} {w:World}:∀ {l:List St} {xs:List Value},NSts N F w l xs↔LsAt (NSt N F w) l xs
 | [],xs=>by simp only [NSts,LsAt]
 | e::l,xs=>by
   simp only [NSts,LsAt]
   exact ⟨fun ⟨c,r,h1,h2,h3⟩=>⟨c,r,h1,h2,NSts_ls.1 h3⟩,fun ⟨c,r,h1,h2,h3⟩=>⟨c,r,h1,h2,NSts_ls.2 h3⟩⟩
theorem NE.len {N:List UInt8→List UInt8→Prop} {F:Nat→Prop} {w:World} {e:Ex} {cs:List Value} (h:NE N F w e cs):cs.length=5:=by
 cases e
 simp only [NE] at h
 obtain ⟨_,_,_,_,_,rfl,_⟩:=h
 rfl
theorem NIt.len {N1 N2 N3 N4:List UInt8→List UInt8→Prop} {F:Nat→Prop} {w:World} {s:St} {cs:List Value} (h:NIt N1 N2 N3 N4 F w s cs):cs.length=9:=by
 cases s
 obtain ⟨_,ec,_,_,_,_,_,_,_,rfl,h2,_⟩:=h
 have:=h2.len
 simp [this]
theorem NSt_it {N:List UInt8→List UInt8→Prop} {F:Nat→Prop} {w:World} {s:St} {cs:List Value}:NSt N F w s cs↔NIt N N N N F w s cs:=by
 cases s
 simp only [NSt,NIt]
theorem LsAt_rv {α:Type} {φ:List UInt8→List UInt8} {A A':α→List Value→Prop} (h:∀ e c c',A e c→RVs φ c c'→A' e c'):∀ {l:List α} {xs xs':List Value},LsAt A l xs→RVs φ xs xs'→LsAt A' l xs'
 | [],xs,xs',hx,hv=>by
   obtain rfl:xs=[]:=hx
   exact hv.nil
 | e::l,xs,xs',⟨c,r,h1,h2,h3⟩,hv=>by
   subst h1
   obtain ⟨c',r',rfl,k1,k2⟩:=hv.app
   exact ⟨c',r',rfl,h e c c' h2 k1,LsAt_rv h h3 k2⟩
section
variable {φ:List UInt8→List UInt8}
theorem N_turn {N:List UInt8→List UInt8→Prop} (hN:NCl φ N) {s nm:List UInt8} {v:Value} (h:N s nm) (hv:RV φ (.string (str nm)) v):∃ nm',v = .string (str nm')∧N s nm':=by
 rcases hv.str with rfl | rfl
 · exact ⟨nm,rfl,h⟩
 · exact ⟨φ nm,rfl,hN s nm h⟩
mutual
theorem NE_turn {N:List UInt8→List UInt8→Prop} (hN:NCl φ N) {F:Nat→Prop} {w w':World} (hF:∀ k,F k→Soft w k) (hk:TR φ F w w'):∀ (e:Ex) (cs cs':List Value),NE N F w e cs→RVs φ cs cs'→NE N F w' e cs'
 | .mk op ty bits name kids,cs,cs',h,hv=>by
   simp only [NE] at h ⊢
   obtain ⟨nm,a,cap,xs,h1,rfl,hsl,hks⟩:=h
   obtain ⟨v1,r1,rfl,k1,hv⟩:=hv.cons
   obtain ⟨v2,r2,rfl,k2,hv⟩:=hv.cons
   obtain ⟨v3,r3,rfl,k3,hv⟩:=hv.cons
   obtain ⟨v4,r4,rfl,k4,hv⟩:=hv.cons
   obtain ⟨v5,r5,rfl,k5,hv⟩:=hv.cons
   obtain rfl:=hv.nil
   obtain rfl:=k1.int
   obtain rfl:=k2.int
   obtain rfl:=k3.int
   obtain ⟨nm',rfl,hn⟩:=N_turn hN h1 k4
   obtain rfl:=k5.sl
   obtain ⟨xs',g1,g2⟩:=SlAt_turnR hF hsl hk
   exact ⟨nm',a,cap,xs',hn,rfl,g1,NEs_turn hN hF hk kids xs xs' hks g2⟩
theorem NEs_turn {N:List UInt8→List UInt8→Prop} (hN:NCl φ N) {F:Nat→Prop} {w w':World} (hF:∀ k,F k→Soft w k) (hk:TR φ F w w'):∀ (l:List Ex) (xs xs':List Value),NEs N F w l xs→RVs φ xs xs'→NEs N F w' l xs'
 | [],xs,xs',h,hv=>by
   simp only [NEs] at h ⊢
   subst h
   exact hv.nil
 | e::l,xs,xs',h,hv=>by
   simp only [NEs] at h ⊢
   obtain ⟨c,r,rfl,h1,h2⟩:=h
   obtain ⟨c',r',rfl,k1,k2⟩:=hv.app
   exact ⟨c',r',rfl,NE_turn hN hF hk e c c' h1 k1,NEs_turn hN hF hk l r r' h2 k2⟩
end
mutual
theorem NSt_turn {N:List UInt8→List UInt8→Prop} (hN:NCl φ N) {F:Nat→Prop} {w w':World} (hF:∀ k,F k→Soft w k) (hk:TR φ F w w'):∀ (s:St) (cs cs':List Value),NSt N F w s cs→RVs φ cs cs'→NSt N F w' s cs'
 | .mk kind name e body els,cs,cs',h,hv=>by
   simp only [NSt] at h ⊢
   obtain ⟨nm,ec,a,cap,xs,b,cap2,ys,h1,rfl,he,hb,hbs,hl,hls⟩:=h
   obtain ⟨v1,r1,rfl,k1,hv⟩:=hv.cons
   obtain ⟨v2,r2,rfl,k2,hv⟩:=hv.cons
   obtain ⟨ec',r3,rfl,k3,hv⟩:=hv.app
   obtain ⟨v4,r4,rfl,k4,hv⟩:=hv.cons
   obtain ⟨v5,r5,rfl,k5,hv⟩:=hv.cons
   obtain rfl:=hv.nil
   obtain rfl:=k1.int
   obtain ⟨nm',rfl,hn⟩:=N_turn hN h1 k2
   obtain rfl:=k4.sl
   obtain rfl:=k5.sl
   obtain ⟨xs',g1,g2⟩:=SlAt_turnR hF hb hk
   obtain ⟨ys',g3,g4⟩:=SlAt_turnR hF hl hk
   exact ⟨nm',ec',a,cap,xs',b,cap2,ys',hn,rfl,NE_turn hN hF hk e ec ec' he k3,g1,NSts_turn hN hF hk body xs xs' hbs g2,g3,NSts_turn hN hF hk els ys ys' hls g4⟩
theorem NSts_turn {N:List UInt8→List UInt8→Prop} (hN:NCl φ N) {F:Nat→Prop} {w w':World} (hF:∀ k,F k→Soft w k) (hk:TR φ F w w'):∀ (l:List St) (xs xs':List Value),NSts N F w l xs→RVs φ xs xs'→NSts N F w' l xs'
 | [],xs,xs',h,hv=>by
   simp only [NSts] at h ⊢
   subst h
   exact hv.nil
 | e::l,xs,xs',h,hv=>by
   simp only [NSts] at h ⊢
   obtain ⟨c,r,rfl,h1,h2⟩:=h
   obtain ⟨c',r',rfl,k1,k2⟩:=hv.app
   exact ⟨c',r',rfl,NSt_turn hN hF hk e c c' h1 k1,NSts_turn hN hF hk l r r' h2 k2⟩
end
theorem NVr_turn {N:List UInt8→List UInt8→Prop} (hN:NCl φ N) (v:Vr) (cs cs':List Value) (h:NVr N v cs) (hv:RVs φ cs cs'):NVr N v cs':=by
 obtain ⟨nm,h1,rfl⟩:=h
 obtain ⟨v1,r1,rfl,k1,hv⟩:=hv.cons
 obtain ⟨v2,r2,rfl,k2,hv⟩:=hv.cons
 obtain ⟨v3,r3,rfl,k3,hv⟩:=hv.cons
 obtain rfl:=hv.nil
 obtain ⟨nm',rfl,hn⟩:=N_turn hN h1 k1
 obtain rfl:=k2.int
 obtain rfl:=k3.int
 exact ⟨nm',hn,rfl⟩
theorem NTx_turn {N:List UInt8→List UInt8→Prop} (hN:NCl φ N) (v:List UInt8) (cs cs':List Value) (h:NTx N v cs) (hv:RVs φ cs cs'):NTx N v cs':=by
 obtain ⟨nm,h1,rfl⟩:=h
 obtain ⟨v1,r1,rfl,k1,hv⟩:=hv.cons
 obtain rfl:=hv.nil
 obtain ⟨nm',rfl,hn⟩:=N_turn hN h1 k1
 exact ⟨nm',hn,rfl⟩
theorem NTh_turn {N1 N2 N3:List UInt8→List UInt8→Prop} (h1:NCl φ N1) (h2:NCl φ N2) (h3:NCl φ N3) {F:Nat→Prop} {w w':World} (hF:∀ k,F k→Soft w k) (hk:TR φ F w w') (t:Th) (cs cs':List Value) (h:NTh N1 N2 N3 F w t cs) (hv:RVs φ cs cs'):NTh N1 N2 N3 F w' t cs':=by
 obtain ⟨nm,a,cap,xs,b,cap2,ys,hn0,rfl,hl,hls,hb,hbs⟩:=h
 obtain ⟨v1,r1,rfl,k1,hv⟩:=hv.cons
 obtain ⟨v2,r2,rfl,k2,hv⟩:=hv.cons
 obtain ⟨v3,r3,rfl,k3,hv⟩:=hv.cons
 obtain rfl:=hv.nil
 obtain ⟨nm',rfl,hn⟩:=N_turn h1 hn0 k1
 obtain rfl:=k2.sl
 obtain rfl:=k3.sl
 obtain ⟨xs',g1,g2⟩:=SlAt_turnR hF hl hk
 obtain ⟨ys',g3,g4⟩:=SlAt_turnR hF hb hk
 exact ⟨nm',a,cap,xs',b,cap2,ys',hn,rfl,g1,LsAt_rv (NVr_turn h2) hls g2,g3,NSts_turn h3 hF hk t.body ys ys' hbs g4⟩
mutual
theorem NE.of {F:Nat→Prop} {w:World}:∀ {e:Ex} {cs:List Value},ExAt F w e cs→NE (Np φ) F w e cs
 | .mk op ty bits name kids,cs,h=>by
   simp only [ExAt] at h
   simp only [NE]
   obtain ⟨a,cap,xs,rfl,h1,h2⟩:=h
   exact ⟨name,a,cap,xs,.inl rfl,rfl,h1,NEs.of h2⟩
theorem NEs.of {F:Nat→Prop} {w:World}:∀ {l:List Ex} {xs:List Value},ExsAt F w l xs→NEs (Np φ) F w l xs
 | [],xs,h=>by simp only [ExsAt] at h;simp only [NEs];exact h
 | e::l,xs,h=>by
   simp only [ExsAt] at h
   simp only [NEs]
   obtain ⟨c,r,h1,h2,h3⟩:=h
   exact ⟨c,r,h1,NE.of h2,NEs.of h3⟩
end
mutual
theorem NE.to {F:Nat→Prop} {w:World}:∀ {e:Ex} {cs:List Value},NE (Nf φ) F w e cs→ExAt F w (rnE φ e) cs
 | .mk op ty bits name kids,cs,h=>by
   simp only [NE] at h
   simp only [rnE,ExAt]
   obtain ⟨nm,a,cap,xs,rfl,rfl,h1,h2⟩:=h
   have e1:(rnEs φ kids).length=kids.length:=by rw [rnEs_map,List.length_map]
   rw [e1]
   exact ⟨a,cap,xs,rfl,h1,NEs.to h2⟩
theorem NEs.to {F:Nat→Prop} {w:World}:∀ {l:List Ex} {xs:List Value},NEs (Nf φ) F w l xs→ExsAt F w (rnEs φ l) xs
 | [],xs,h=>by simp only [NEs] at h;simp only [rnEs,ExsAt];exact h
 | e::l,xs,h=>by
   simp only [NEs] at h
   simp only [rnEs,ExsAt]
   obtain ⟨c,r,h1,h2,h3⟩:=h
   exact ⟨c,r,h1,NE.to h2,NEs.to h3⟩
end
mutual
theorem NSt.of {F:Nat→Prop} {w:World}:∀ {s:St} {cs:List Value},StAt F w s cs→NSt (Np φ) F w s cs
 | .mk k n e b l,cs,h=>by
   simp only [StAt] at h
   simp only [NSt]
   obtain ⟨ec,a,cap,xs,b',cap2,ys,rfl,h1,h2,h3,h4,h5⟩:=h
   exact ⟨n,ec,a,cap,xs,b',cap2,ys,.inl rfl,rfl,NE.of h1,h2,NSts.of h3,h4,NSts.of h5⟩
theorem NSts.of {F:Nat→Prop} {w:World}:∀ {l:List St} {xs:List Value},StsAt F w l xs→NSts (Np φ) F w l xs
 | [],xs,h=>by simp only [StsAt] at h;simp only [NSts];exact h
 | e::l,xs,h=>by
   simp only [StsAt] at h
   simp only [NSts]
   obtain ⟨c,r,h1,h2,h3⟩:=h
   exact ⟨c,r,h1,NSt.of h2,NSts.of h3⟩
end
mutual
theorem NSt.to {F:Nat→Prop} {w:World}:∀ {s:St} {cs:List Value},NSt (Nf φ) F w s cs→StAt F w (rnS φ s) cs
 | .mk k n e b l,cs,h=>by
   simp only [NSt] at h
   simp only [rnS,StAt]
   obtain ⟨nm,ec,a,cap,xs,b',cap2,ys,rfl,rfl,h1,h2,h3,h4,h5⟩:=h
   have e1:(rnSs φ b).length=b.length:=by rw [rnSs_map,List.length_map]
   have e2:(rnSs φ l).length=l.length:=by rw [rnSs_map,List.length_map]
   rw [e1,e2]
   exact ⟨ec,a,cap,xs,b',cap2,ys,rfl,NE.to h1,h2,NSts.to h3,h4,NSts.to h5⟩
theorem NSts.to {F:Nat→Prop} {w:World}:∀ {l:List St} {xs:List Value},NSts (Nf φ) F w l xs→StsAt F w (rnSs φ l) xs
 | [],xs,h=>by simp only [NSts] at h;simp only [rnSs,StsAt];exact h
 | e::l,xs,h=>by
   simp only [NSts] at h
   simp only [rnSs,StsAt]
   obtain ⟨c,r,h1,h2,h3⟩:=h
   exact ⟨c,r,h1,NSt.to h2,NSts.to h3⟩
end
theorem LsAt_map {α β:Type} {A:α→List Value→Prop} {A':β→List Value→Prop} {f:α→β} (h:∀ e c,A e c→A' (f e) c):∀ {l:List α} {xs:List Value},LsAt A l xs→LsAt A' (l.map f) xs
 | [],xs,hx=>hx
 | e::l,xs,⟨c,r,h1,h2,h3⟩=>⟨c,r,h1,h e c h2,LsAt_map h h3⟩
theorem NVr.to {v:Vr} {cs:List Value} (h:NVr (Nf φ) v cs):VrAt (rnV φ v) cs:=by
 obtain ⟨nm,rfl,rfl⟩:=h
 rfl
theorem NTx.to {v:List UInt8} {cs:List Value} (h:NTx (Nf φ) v cs):TxAt (φ v) cs:=by
 obtain ⟨nm,rfl,rfl⟩:=h
 rfl
theorem NTh.to {F:Nat→Prop} {w:World} {t:Th} {cs:List Value} (h:NTh (Nf φ) (Nf φ) (Nf φ) F w t cs):ThAt F w (rnT φ t) cs:=by
 obtain ⟨nm,a,cap,xs,b,cap2,ys,rfl,rfl,h1,h2,h3,h4⟩:=h
 have e1:(rnT φ t).locals.length=t.locals.length:=List.length_map _
 have e2:(rnT φ t).body.length=t.body.length:=by show (rnSs φ t.body).length=_;rw [rnSs_map,List.length_map]
 refine ⟨a,cap,xs,b,cap2,ys,?_,?_,LsAt_map (fun _ _ h=>NVr.to h) h2,?_,NSts.to h4⟩
 · rw [e1,e2];rfl
 · rw [e1];exact h1
 · rw [e2];exact h3
theorem NTh.of {F:Nat→Prop} {w:World} {t:Th} {cs:List Value} (h:ThAt F w t cs):NTh (Np φ) (Np φ) (Np φ) F w t cs:=by
 obtain ⟨a,cap,xs,b,cap2,ys,rfl,h1,h2,h3,h4⟩:=h
 exact ⟨t.name,a,cap,xs,b,cap2,ys,.inl rfl,rfl,h1,h2.imp fun v c h=>⟨v.name,.inl rfl,h⟩,h3,NSts.of h4⟩
structure RI (φ:List UInt8→List UInt8) (F:Nat→Prop) (w:World) (B:Nat→Prop) (w1:World):Prop where
 keep:Sy.Keep (fun k=>k<w.heap.size∧¬ F k) w w1
 turn:TR φ F w w1
 old:∀ k,k<w.heap.size→B k
 lt:∀ k,B k→k<w1.heap.size
theorem RI.refl (F:Nat→Prop) (w:World):RI φ F w (·<w.heap.size) w:=⟨Sy.Keep.refl _ _,fun k c e _ h=>⟨c,h,rfl,fun j v hv=>⟨v,hv,.refl v⟩⟩,fun k h=>h,fun k h=>h⟩
theorem RI.step (hi:∀ s,φ (φ s)=φ s) {F B B':Nat→Prop} {w w1 W w2:World} (h:RI φ F w B w1) (hFw:∀ k,F k→k<w.heap.size) (hk:Sy.Keep B w1 W) (ht:TR φ F W w2) (hk2:Sy.Keep (fun k=>B k∧¬ F k) w1 w2) (hB:∀ k,B k→B' k) (hB2:∀ k,B' k→k<w2.heap.size):RI φ F w B' w2:=
 ⟨h.keep.trans (hk2.mono fun k hk=>⟨h.old k hk.1,hk.2⟩),(h.turn.trans hi (TR.of_keep hk fun k hk=>h.old k (hFw k hk))).trans hi ht,fun k hk=>hB k (h.old k hk),hB2⟩
end
end
section
set_option maxRecDepth 100000
theorem phi_idem (a b s:List UInt8):phi a b (phi a b s)=phi a b s:=by
 unfold phi
 split
 · split <;> rfl
 · rfl
theorem LsAt_len5 {α:Type} {A:α→List Value→Prop} {k:Nat} (hk:∀ e c,A e c→c.length=k):∀ {l:List α} {xs:List Value},LsAt A l xs→xs.length=l.length*k
 | [],xs,h=>by
   obtain rfl:xs=[]:=h
   simp
 | e::l,xs,⟨c,r,h1,h2,h3⟩=>by
   have:=LsAt_len5 hk h3
   rw [h1,List.length_append,hk e c h2,List.length_cons,Nat.succ_mul]
   omega
theorem cells5_rv {φ:List UInt8→List UInt8} (hi:∀ s,φ (φ s)=φ s) {op ty bits:Int} {s:List UInt8} {a:Option Addr} {n cap:Nat} {cs:List Value} (h:RVs φ [.int .u8 op,.int .u8 ty,.int .u64 bits,.string (str (φ s)),.slice a n cap] cs):cs=[.int .u8 op,.int .u8 ty,.int .u64 bits,.string (str (φ s)),.slice a n cap]:=by
 obtain ⟨v1,r1,rfl,k1,h⟩:=h.cons
 obtain ⟨v2,r2,rfl,k2,h⟩:=h.cons
 obtain ⟨v3,r3,rfl,k3,h⟩:=h.cons
 obtain ⟨v4,r4,rfl,k4,h⟩:=h.cons
 obtain ⟨v5,r5,rfl,k5,h⟩:=h.cons
 obtain rfl:=h.nil
 obtain rfl:=k1.int
 obtain rfl:=k2.int
 obtain rfl:=k3.int
 obtain rfl:=k5.sl
 rcases k4.str with rfl | rfl
 · rfl
 · rw [hi]
open Go.Sy
theorem dname_any (fr nu s:List UInt8) (w:World):CB 105 #[nT s,nT fr,nT nu] w (nT (phi fr nu s)):=by
 refine eN [nT s,nT fr,nT nu] Tryz.func105 (fun γ0 hγ0=>?_)
 refine rk ?_
 by_cases h:s=fr
 ·
  refine gK true (b:=bEqL s fr) (by rw [bEqL_eq];simp [h]) ?_
  refine rs [] 60 2 ?_
  exact gR (nT nu) (fun W hk=>⟨by unfold phi;rw [if_pos h],hk.below⟩)
 ·
  refine gK false (b:=bEqL s fr) (by rw [bEqL_eq];simp [h]) ?_
  refine rs [] 60 2 ?_
  exact gR (nT s) (fun W hk=>⟨by unfold phi;rw [if_neg h],hk.below⟩)
theorem drexpr_any (fr nu:List UInt8):∀ (N:Nat) (e:Ex) (b o:Nat) (cs:List Value) (F:Nat→Prop) (w:World),wgt e≤N→wgt e≤1000000000000→(∀ k,F k→Soft w k)→SlAt F w (some ⟨b,o,none⟩) 1 5 cs→NE (Np (phi fr nu)) F w e cs→
  Calls Tryz.prog 176 #[.pointer (some ⟨b,o,none⟩),nT fr,nT nu] w fun r w'=>r = .returned (.tuple #[])∧Keep (fun k=>k<w.heap.size∧¬ F k) w w'∧TR (phi fr nu) F w w'∧∃ cs',SlAt F w' (some ⟨b,o,none⟩) 1 5 cs'∧NE (Nf (phi fr nu)) F w' e cs':=by
 intro N
 induction N with
 | zero=>intro e b o cs F w h;have:=wgt_pos e;omega
 | succ N ihN=>
   intro e b o cs F w hN hbd hF hat hne
   have hFw:∀ k,F k→k<w.heap.size:=fun k hk=>let ⟨c,e,h⟩:=hF k hk;(Array.getElem?_eq_some_iff.1 h).1
   obtain ⟨op,ty,bits,name,kids⟩:=e
   simp only [NE] at hne
   obtain ⟨nm,a,cap,xs,hnm,rfl,hsl,hks⟩:=hne
   simp only [wgt] at hN hbd
   have hnl:=wgts_len kids
   refine eN [.pointer (some ⟨b,o,none⟩),nT fr,nT nu] Tryz.func176 (fun γ0 hγ0=>?_)
   refine rk ?_
   refine gV (nT nm) (S:=Instr.loadAt 9 (.pointer (some ⟨b,o+3,none⟩))) (fun W hk=>ld_pt hat (by kernel_rfl) 3 rfl (hk.mono hFw)) ?_
   refine rk ?_
   refine gX [nT nm,nT fr,nT nu] (nT (phi fr nu nm)) (fun W hk=>dname_any fr nu nm W) ?_
   refine rk ?_
   refine good_storeW 9 (.pointer (some ⟨b,o+3,none⟩)) (nT (phi fr nu nm)) F (Pr:=fun w w'=>TR (phi fr nu) F w w'∧w'.cell? ⟨b,o+3,none⟩=some (nT (phi fr nu nm))) (by kernel_rfl) (by kernel_rfl) hFw (fun W hk=>st_ptR hF hat (by kernel_rfl) 3 rfl (hk.mono hFw)) ?_
   intro W w1 B1 hk1 ⟨ht1,hcl1⟩ _ hk01 hB01 hB1
   have hO1:RI (phi fr nu) F w B1 w1:=(RI.refl F w).step (phi_idem fr nu) hFw hk1 ht1 hk01 hB01 hB1
   obtain ⟨xs1,hsl1,hrv1⟩:=SlAt_turnR hF hsl hO1.turn
   have hks1:=NEs_turn (ncl_p (phi_idem fr nu)) hF hO1.turn kids xs xs1 hks hrv1
   have hat1:SlAt F w1 (some ⟨b,o,none⟩) 1 5 (xL op ty bits (phi fr nu name) a kids.length cap):=by
    obtain ⟨cs1,h1,h2⟩:=SlAt_turnR hF hat hO1.turn
    obtain ⟨v1,r1,rfl,k1,h2⟩:=h2.cons
    obtain ⟨v2,r2,rfl,k2,h2⟩:=h2.cons
    obtain ⟨v3,r3,rfl,k3,h2⟩:=h2.cons
    obtain ⟨v4,r4,rfl,k4,h2⟩:=h2.cons
    obtain ⟨v5,r5,rfl,k5,h2⟩:=h2.cons
    obtain rfl:=h2.nil
    obtain rfl:=k1.int
    obtain rfl:=k2.int
    obtain rfl:=k3.int
    obtain rfl:=k5.sl
    have h3:=sl_cell h1 (j:=3) rfl
    simp only [gB,oB] at h3
    rw [hcl1] at h3
    injection h3 with h3
    rw [np_phi (phi_idem fr nu) hnm] at h3
    rw [← h3] at h1
    exact h1
   clear hcl1 hk01
   refine rk ?_
   refine good_toLp ?_
   refine good_loopB (fun i:List Ex×List Ex=>i.2.length) (fun i B w1=>kids=i.1++i.2∧RI (phi fr nu) F w B w1∧SlAt F w1 (some ⟨b,o,none⟩) 1 5 (xL op ty bits (phi fr nu name) a kids.length cap)∧∃ xa xb,SlAt F w1 a kids.length 5 (xa++xb)∧LsAt (NE (Nf (phi fr nu)) F w1) i.1 xa∧LsAt (NE (Np (phi fr nu)) F w1) i.2 xb) (fun i=>⟨mkT [(0,.v (.pointer (some ⟨b,o,none⟩))),(1,vT fr),(2,vT nu),(6,vI (i.1.length:Int))],mkH [],gz,[]⟩)
    ([],kids) ⟨rfl,hO1,hat1,[],xs1,hsl1,rfl,NEs_ls.1 hks1⟩ (by kernel_rfl)
    (fun h=>gU _ [(0,.v (.pointer (some ⟨b,o,none⟩))),(1,vT fr),(2,vT nu),(6,vI (([]:List Ex).length:Int))] [] gz hγ0 h) ?_
   clear hat1 hsl1 hks1 hO1 hrv1 ht1 hk1
   rintro ⟨l1,l2⟩ B2 w2 ⟨hsp,hO2,hat2,xa,xb,hsl2,hxa,hxb⟩ ih
   have hsp:kids=l1++l2:=hsp
   have hxa:LsAt (NE (Nf (phi fr nu)) F w2) l1 xa:=hxa
   have hxb:LsAt (NE (Np (phi fr nu)) F w2) l2 xb:=hxb
   have hn2:kids.length=l1.length+l2.length:=by rw [hsp,List.length_append]
   have hw1:wgts kids=wgts l1+wgts l2:=by rw [hsp,wgts_app]
   have hFB:∀ k,F k→B2 k:=fun k h=>hO2.old k (hFw k h)
   have hF2:=hO2.turn.soft hF
   refine rk ?_
   refine gV (.slice a kids.length cap) (S:=Instr.loadAt 32 (.pointer (some ⟨b,o+4,none⟩))) (fun W hk=>ld_pt hat2 (by kernel_rfl) 4 rfl (hk.mono hFB)) ?_
   refine rk ?_
   cases l2 with
   | nil=>
     have hn3:kids.length=l1.length:=by rw [hn2];simp
     have hl1:l1=kids:=by rw [hsp];simp
     obtain rfl:xb=[]:=hxb
     rw [List.append_nil] at hsl2
     refine ky (l1.length:Int) (kids.length:Int) (by omega) ?_
     refine rk ?_
     refine gR (.tuple #[]) (fun W hk=>⟨rfl,hO2.keep.trans (hk.mono fun k h=>hO2.old k h.1),hO2.turn.trans (phi_idem fr nu) (TR.of_keep hk hFB),_,hat2.keep (hk.mono hFB),?_⟩)
     simp only [NE]
     refine ⟨_,a,cap,xa,rfl,rfl,hsl2.keep (hk.mono hFB),NEs_ls.2 ?_⟩
     rw [← hl1]
     exact (NEs_ls.1 (NEs_turn (ncl_f (phi_idem fr nu)) hF2 (TR.of_keep hk hFB) _ _ _ (NEs_ls.2 hxa) ⟨rfl,fun j v hv=>⟨v,hv,.refl v⟩⟩))
   | cons x l3=>
     obtain ⟨c,r,rfl,hx,hxr⟩:=hxb
     have hxal:xa.length=l1.length*5:=LsAt_len5 (fun _ _ h=>h.len) hxa
     have hin:l1.length<kids.length:=by rw [hn2,List.length_cons];omega
     have hcell:∀ j v,c[j]?=some v→(xa++(c++r))[l1.length*5+j]?=some v:=fun j v hv=>by
      rw [List.getElem?_append_right (by omega),show l1.length*5+j - xa.length=j by omega,List.getElem?_append_left (List.getElem?_eq_some_iff.1 hv).1]
      exact hv
     have hpc:=slAt_part hsl2 (by omega) hx.len hcell
     simp only [wgts] at hw1
     have hwx:=wgt_pos x
     refine kx (l1.length:Int) (kids.length:Int) (by omega) ?_
     refine rk ?_
     refine gV (.slice a kids.length cap) (S:=Instr.loadAt 32 (.pointer (some ⟨b,o+4,none⟩))) (fun W hk=>ld_pt hat2 (by kernel_rfl) 4 rfl (hk.mono hFB)) ?_
     refine rk ?_
     refine gI 32 34 cap l1.length hsl2 hin ?_
     refine rk ?_
     refine good_callW (sy_cx _ _) [.pointer (some ⟨gB a,oB a+l1.length*5,none⟩),nT fr,nT nu] F (Pr:=fun w r w'=>r = .tuple #[]∧TR (phi fr nu) F w w'∧∃ cs',SlAt F w' (some ⟨gB a,oB a+l1.length*5,none⟩) 1 5 cs'∧NE (Nf (phi fr nu)) F w' x cs') (by kernel_rfl) (by kernel_rfl) (by kernel_rfl) (by kernel_rfl) hFB
      (fun W hk=>(ihN x _ _ c F W (by omega) (by omega) ((TR.of_keep (φ:=(phi fr nu)) hk hFB).soft hF2) (hpc.keep (hk.mono hFB)) (NE_turn (ncl_p (phi_idem fr nu)) hF2 (TR.of_keep hk hFB) _ _ _ hx ⟨rfl,fun j v hv=>⟨v,hv,.refl v⟩⟩)).mono fun r w' ⟨h1,h2,h3,h4⟩=>⟨_,h1,⟨rfl,h3,h4⟩,h2⟩) ?_
     rintro W r3 w3 B3 hk3 ⟨rfl,ht3,cx,hcx,hnx⟩ _ hk23 hB23 _ hB3
     have hO3:RI (phi fr nu) F w B3 w3:=hO2.step (phi_idem fr nu) hFw hk3 ht3 hk23 hB23 hB3
     have ht23:TR (phi fr nu) F w2 w3:=(TR.of_keep hk3 hFB).trans (phi_idem fr nu) ht3
     refine rk ?_
     refine gJ 6 l1 x (by omega) ?_
     obtain ⟨ys,hsl3,hrv3⟩:=SlAt_turnR hF2 hsl2 ht23
     obtain ⟨ya,yr,rfl,hra,hrr⟩:=hrv3.app
     obtain ⟨yc,yd,rfl,hrc,hrd⟩:=hrr.app
     have hya:LsAt (NE (Nf (phi fr nu)) F w3) l1 ya:=LsAt_rv (NE_turn (ncl_f (phi_idem fr nu)) hF2 ht23) hxa hra
     have hyal:ya.length=l1.length*5:=LsAt_len5 (fun _ _ h=>h.len) hya
     have hcell3:∀ j v,yc[j]?=some v→(ya++(yc++yd))[l1.length*5+j]?=some v:=fun j v hv=>by
      rw [List.getElem?_append_right (by omega),show l1.length*5+j - ya.length=j by omega,List.getElem?_append_left (List.getElem?_eq_some_iff.1 hv).1]
      exact hv
     have hpc3:=slAt_part hsl3 (by omega) (show yc.length=5 by rw [hrc.1];exact hx.len) hcell3
     obtain rfl:=slAt_uniq hpc3 hcx (by omega)
     have hat3:SlAt F w3 (some ⟨b,o,none⟩) 1 5 (xL op ty bits (phi fr nu name) a kids.length cap):=by
      obtain ⟨cs1,h1,h2⟩:=SlAt_turnR hF2 hat2 ht23
      rw [cells5_rv (phi_idem fr nu) h2] at h1
      exact h1
     exact gU _ [(0,.v (.pointer (some ⟨b,o,none⟩))),(1,vT fr),(2,vT nu),(6,vI ((l1++[x]).length:Int))] [] gz hγ0 (ih (l1++[x],l3) B3 w3 ⟨by show kids=(l1++[_])++l3;rw [hsp];simp,hO3,hat3,ya++yc,yd,by rw [List.append_assoc];exact hsl3,hya.snoc hnx,LsAt_rv (NE_turn (ncl_p (phi_idem fr nu)) hF2 ht23) hxr hrd⟩ lS1)
end
section
def NItx (N1 N2 N3 N4:List UInt8→List UInt8→Prop) (F:Nat→Prop) (w:World) (ba:Option Addr) (bc:Nat) (la:Option Addr) (lc:Nat) (kind:Int) (name:List UInt8) (e:Ex) (body els:List St) (cs:List Value):Prop:=
 ∃ nm ec xs ys,N1 name nm∧cs = .int .i64 kind :: .string (str nm)::(ec++[.slice ba body.length bc,.slice la els.length lc])∧NE N2 F w e ec∧Sy.SlAt F w ba body.length 9 xs∧NSts N3 F w body xs∧Sy.SlAt F w la els.length 9 ys∧NSts N4 F w els ys
theorem NItx.len {N1 N2 N3 N4:List UInt8→List UInt8→Prop} {F:Nat→Prop} {w:World} {ba:Option Addr} {bc:Nat} {la:Option Addr} {lc:Nat} {kind:Int} {name:List UInt8} {e:Ex} {body els:List St} {cs:List Value} (h:NItx N1 N2 N3 N4 F w ba bc la lc kind name e body els cs):cs.length=9:=by
 obtain ⟨_,ec,_,_,_,rfl,h2,_⟩:=h
 have:=h2.len
 simp [this]
theorem NSt_itx {N:List UInt8→List UInt8→Prop} {F:Nat→Prop} {w:World} {kind:Int} {name:List UInt8} {e:Ex} {body els:List St} {cs:List Value} (h:NSt N F w (.mk kind name e body els) cs):∃ ba bc la lc,NItx N N N N F w ba bc la lc kind name e body els cs:=by
 simp only [NSt] at h
 obtain ⟨nm,ec,a,cap,xs,b,cap2,ys,h1,h2,h3,h4,h5,h6,h7⟩:=h
 exact ⟨a,cap,b,cap2,nm,ec,xs,ys,h1,h2,h3,h4,h5,h6,h7⟩
theorem NItx.st {N:List UInt8→List UInt8→Prop} {F:Nat→Prop} {w:World} {ba:Option Addr} {bc:Nat} {la:Option Addr} {lc:Nat} {kind:Int} {name:List UInt8} {e:Ex} {body els:List St} {cs:List Value} (h:NItx N N N N F w ba bc la lc kind name e body els cs):NSt N F w (.mk kind name e body els) cs:=by
 obtain ⟨nm,ec,xs,ys,h1,h2,h3,h4,h5,h6,h7⟩:=h
 simp only [NSt]
 exact ⟨nm,ec,ba,bc,xs,la,lc,ys,h1,h2,h3,h4,h5,h6,h7⟩
section
variable {φ:List UInt8→List UInt8}
theorem NItx_turn {N1 N2 N3 N4:List UInt8→List UInt8→Prop} (h1:NCl φ N1) (h2:NCl φ N2) (h3:NCl φ N3) (h4:NCl φ N4) {F:Nat→Prop} {w w':World} (hF:∀ k,F k→Soft w k) (hk:TR φ F w w') {ba:Option Addr} {bc:Nat} {la:Option Addr} {lc:Nat} {kind:Int} {name:List UInt8} {e:Ex} {body els:List St} {cs cs':List Value} (h:NItx N1 N2 N3 N4 F w ba bc la lc kind name e body els cs) (hv:RVs φ cs cs'):NItx N1 N2 N3 N4 F w' ba bc la lc kind name e body els cs':=by
 obtain ⟨nm,ec,xs,ys,hn0,rfl,he,hb,hbs,hl,hls⟩:=h
 obtain ⟨v1,r1,rfl,k1,hv⟩:=hv.cons
 obtain ⟨v2,r2,rfl,k2,hv⟩:=hv.cons
 obtain ⟨ec',r3,rfl,k3,hv⟩:=hv.app
 obtain ⟨v4,r4,rfl,k4,hv⟩:=hv.cons
 obtain ⟨v5,r5,rfl,k5,hv⟩:=hv.cons
 obtain rfl:=hv.nil
 obtain rfl:=k1.int
 obtain ⟨nm',rfl,hn⟩:=N_turn h1 hn0 k2
 obtain rfl:=k4.sl
 obtain rfl:=k5.sl
 obtain ⟨xs',g1,g2⟩:=SlAt_turnR hF hb hk
 obtain ⟨ys',g3,g4⟩:=SlAt_turnR hF hl hk
 exact ⟨nm',ec',xs',ys',hn,rfl,NE_turn h2 hF hk e ec ec' he k3,g1,NSts_turn h3 hF hk body xs xs' hbs g2,g3,NSts_turn h4 hF hk els ys ys' hls g4⟩
theorem adv3 {α:Type} {P1 P1' P3 P3':α→List Value→Prop} {Px Px':List Value→Prop} {F:Nat→Prop} {w w':World} {a:Option Addr} {n sz:Nat} {l1 l3:List α} {xa c r:List Value} (hF:∀ k,F k→Soft w k) (hk:TR φ F w w')
  (t1:∀ e c c',P1 e c→RVs φ c c'→P1' e c') (tx:∀ c c',Px c→RVs φ c c'→Px' c') (t3:∀ e c c',P3 e c→RVs φ c c'→P3' e c') (hsl:Sy.SlAt F w a n sz (xa++(c++r))) (h1:LsAt P1 l1 xa) (hx:Px c) (h3:LsAt P3 l3 r):
  ∃ ya yc yd,Sy.SlAt F w' a n sz (ya++(yc++yd))∧LsAt P1' l1 ya∧Px' yc∧RVs φ c yc∧LsAt P3' l3 yd:=by
 obtain ⟨ys,hsl3,hrv3⟩:=SlAt_turnR hF hsl hk
 obtain ⟨ya,yr,rfl,hra,hrr⟩:=hrv3.app
 obtain ⟨yc,yd,rfl,hrc,hrd⟩:=hrr.app
 exact ⟨ya,yc,yd,hsl3,LsAt_rv t1 h1 hra,tx _ _ hx hrc,hrc,LsAt_rv t3 h3 hrd⟩
theorem item_at {α:Type} {A:α→List Value→Prop} {k:Nat} (hk:∀ e c,A e c→c.length=k) {F:Nat→Prop} {w:World} {a:Option Addr} {n:Nat} {l1:List α} {xa c r:List Value} (hsl:Sy.SlAt F w a n k (xa++(c++r))) (h1:LsAt A l1 xa) (hc:c.length=k) (hn:0<n):Sy.SlAt F w (some ⟨Sy.gB a,Sy.oB a+l1.length*k,none⟩) 1 k c:=by
 have hxal:=LsAt_len5 hk h1
 refine slAt_part hsl hn hc (fun j v hv=>?_)
 rw [List.getElem?_append_right (by omega),show l1.length*k+j - xa.length=j by omega,List.getElem?_append_left (List.getElem?_eq_some_iff.1 hv).1]
 exact hv
theorem NSt.len {N:List UInt8→List UInt8→Prop} {F:Nat→Prop} {w:World} {s:St} {cs:List Value} (h:NSt N F w s cs):cs.length=9:=NIt.len (NSt_it.1 h)
end
open Go.Sy in
set_option maxRecDepth 100000 in
theorem drstmts_any (fr nu:List UInt8):∀ (N:Nat) (L:List St) (a:Option Addr) (n cap:Nat) (xs:List Value) (F:Nat→Prop) (w:World),n=L.length→swts L<N→swts L≤1000000000000→(∀ k,F k→Soft w k)→SlAt F w a n 9 xs→NSts (Np (phi fr nu)) F w L xs→
  Calls Tryz.prog 106 #[.slice a n cap,nT fr,nT nu] w fun r w'=>r = .returned (.tuple #[])∧Keep (fun k=>k<w.heap.size∧¬ F k) w w'∧TR (phi fr nu) F w w'∧∃ xs',SlAt F w' a n 9 xs'∧NSts (Nf (phi fr nu)) F w' L xs':=by
 intro N
 induction N with
 | zero=>intro L a n cap xs F w hn h;omega
 | succ N ihN=>
   intro L a n cap xs F w hn hN hbd hF hsl hks
   have hFw:∀ k,F k→k<w.heap.size:=fun k hk=>let ⟨c,e,h⟩:=hF k hk;(Array.getElem?_eq_some_iff.1 h).1
   have hnl:=swts_len L
   refine eN [.slice a n cap,nT fr,nT nu] Tryz.func106 (fun γ0 hγ0=>?_)
   refine rk ?_
   refine good_toLp ?_
   refine good_loopB (fun i:List St×List St=>i.2.length) (fun i B w1=>L=i.1++i.2∧RI (phi fr nu) F w B w1∧∃ xa xb,SlAt F w1 a n 9 (xa++xb)∧LsAt (NSt (Nf (phi fr nu)) F w1) i.1 xa∧LsAt (NSt (Np (phi fr nu)) F w1) i.2 xb) (fun i=>⟨mkT [(0,vL a n cap),(1,vT fr),(2,vT nu),(6,vI (i.1.length:Int))],mkH [],gz,[]⟩)
    ([],L) ⟨rfl,.refl F w,[],xs,hsl,rfl,NSts_ls.1 hks⟩ (by kernel_rfl)
    (fun h=>gU _ [(0,vL a n cap),(1,vT fr),(2,vT nu),(6,vI (([]:List St).length:Int))] [] gz hγ0 h) ?_
   rintro ⟨l1,l2⟩ B2 w2 ⟨hsp,hO2,xa,xb,hsl2,hxa,hxb⟩ ih
   have hsp:L=l1++l2:=hsp
   have hxa:LsAt (NSt (Nf (phi fr nu)) F w2) l1 xa:=hxa
   have hxb:LsAt (NSt (Np (phi fr nu)) F w2) l2 xb:=hxb
   have hn2:n=l1.length+l2.length:=by rw [hn,hsp,List.length_append]
   have hw1:swts L=swts l1+swts l2:=by rw [hsp,swts_app]
   have hFB2:∀ k,F k→B2 k:=fun k h=>hO2.old k (hFw k h)
   have hF2:=hO2.turn.soft hF
   refine rk ?_
   cases l2 with
   | nil=>
     have hn3:n=l1.length:=by rw [hn2];simp
     have hl1:l1=L:=by rw [hsp];simp
     obtain rfl:xb=[]:=hxb
     rw [List.append_nil] at hsl2
     refine ky (l1.length:Int) (n:Int) (by omega) ?_
     refine rk ?_
     refine gR (.tuple #[]) (fun W hk=>⟨rfl,hO2.keep.trans (hk.mono fun k h=>hO2.old k h.1),hO2.turn.trans (phi_idem fr nu) (TR.of_keep hk hFB2),xa,hsl2.keep (hk.mono hFB2),NSts_ls.2 ?_⟩)
     rw [← hl1]
     exact (NSts_ls.1 (NSts_turn (ncl_f (phi_idem fr nu)) hF2 (TR.of_keep hk hFB2) _ _ _ (NSts_ls.2 hxa) ⟨rfl,fun j v hv=>⟨v,hv,.refl v⟩⟩))
   | cons x l3=>
     obtain ⟨kind,name,e,body,els⟩:=x
     obtain ⟨c,r,rfl,hx,hxr⟩:=hxb
     obtain ⟨ba,bc,la,lc,hx⟩:=NSt_itx hx
     have hin:l1.length<n:=by rw [hn2,List.length_cons];omega
     have hlen:∀ (e:St) (c:List Value),NSt (Nf (phi fr nu)) F w2 e c→c.length=9:=fun _ _ h=>h.len
     have hp2:=item_at hlen hsl2 hxa hx.len (by omega)
     simp only [swts,swt] at hw1
     have hx0:=hx
     obtain ⟨nm,ec,bxs,lxs,hnm,rfl,he,hb,hbs,hl,hls⟩:=hx
     refine kx (l1.length:Int) (n:Int) (by omega) ?_
     refine rk ?_
     refine gI 54 56 cap l1.length hsl2 hin ?_
     refine rk ?_
     refine gV (nT nm) (S:=Instr.loadAt 9 (.pointer (some ⟨gB a,oB a+l1.length*9+1,none⟩))) (fun W hk=>ld_pt hp2 (by kernel_rfl) 1 rfl (hk.mono hFB2)) ?_
     refine rk ?_
     refine gX [nT nm,nT fr,nT nu] (nT (phi fr nu nm)) (fun W hk=>dname_any fr nu nm W) ?_
     refine rk ?_
     refine gI 54 56 cap l1.length hsl2 hin ?_
     refine rk ?_
     refine good_storeW 9 (.pointer (some ⟨gB a,oB a+l1.length*9+1,none⟩)) (nT (phi fr nu nm)) F (Pr:=fun w w'=>TR (phi fr nu) F w w'∧w'.cell? ⟨gB a,oB a+l1.length*9+1,none⟩=some (nT (phi fr nu nm))) (by kernel_rfl) (by kernel_rfl) hFB2 (fun W hk=>st_ptR hF2 hp2 (by kernel_rfl) 1 rfl (hk.mono hFB2)) ?_
     intro W3 w3 B3 hk3 ⟨ht3,hcl3⟩ _ hk23 hB23 hB3
     have hO3:RI (phi fr nu) F w B3 w3:=hO2.step (phi_idem fr nu) hFw hk3 ht3 hk23 hB23 hB3
     have ht23:TR (phi fr nu) F w2 w3:=(TR.of_keep hk3 hFB2).trans (phi_idem fr nu) ht3
     obtain ⟨xa3,c3,r3,hsl3,hxa3,hx3,hrv3,hxr3⟩:=adv3 hF2 ht23 (P1':=NSt (Nf (phi fr nu)) F w3) (Px':=NItx (Np (phi fr nu)) (Np (phi fr nu)) (Np (phi fr nu)) (Np (phi fr nu)) F w3 ba bc la lc kind name e body els) (P3':=NSt (Np (phi fr nu)) F w3) (NSt_turn (ncl_f (phi_idem fr nu)) hF2 ht23) (fun _ _ h hv=>NItx_turn (ncl_p (phi_idem fr nu)) (ncl_p (phi_idem fr nu)) (ncl_p (phi_idem fr nu)) (ncl_p (phi_idem fr nu)) hF2 ht23 h hv) (NSt_turn (ncl_p (phi_idem fr nu)) hF2 ht23) hsl2 hxa hx0 hxr
     have hp3:=item_at (fun _ _ h=>NSt.len h) hsl3 hxa3 hx3.len (by omega)
     have hF3:=ht23.soft hF2
     have hFB3:∀ k,F k→B3 k:=fun k h=>hO3.old k (hFw k h)
     have hx3:NItx (Nf (phi fr nu)) (Np (phi fr nu)) (Np (phi fr nu)) (Np (phi fr nu)) F w3 ba bc la lc kind name e body els c3:=by
      obtain ⟨nm3,ec3,bx3,lx3,h1,rfl,h3,h4,h5,h6,h7⟩:=hx3
      have h8:w3.cell? ⟨gB a,oB a+l1.length*9+1,none⟩=some (nT nm3):=sl_cell hp3 (j:=1) rfl
      rw [hcl3] at h8
      injection h8 with h8
      injection h8 with h8
      have h8:=str_inj h8
      exact ⟨nm3,ec3,bx3,lx3,by unfold Nf;rw [← h8,np_phi (phi_idem fr nu) hnm],rfl,h3,h4,h5,h6,h7⟩
     clear hcl3 hp2 hb hbs hl hls he hnm hx0
     obtain ⟨nm3,ec3,bx3,lx3,g1,rfl,g3,g4,g5,g6,g7⟩:=id hx3
     refine rk ?_
     refine gI 54 56 cap l1.length hsl3 hin ?_
     refine rk ?_
     have hpe3:SlAt F w3 (some ⟨gB a,oB a+l1.length*9+2,none⟩) 1 5 ec3:=slAt_part hp3 (by omega) g3.len (st_mid _ _ _ _)
     refine good_callW (sy_cx _ _) [.pointer (some ⟨gB a,oB a+l1.length*9+2,none⟩),nT fr,nT nu] F (Pr:=fun w r w'=>r = .tuple #[]∧TR (phi fr nu) F w w'∧∃ cs',SlAt F w' (some ⟨gB a,oB a+l1.length*9+2,none⟩) 1 5 cs'∧NE (Nf (phi fr nu)) F w' e cs') (by kernel_rfl) (by kernel_rfl) (by kernel_rfl) (by kernel_rfl) hFB3
      (fun W hk=>(drexpr_any fr nu _ e _ _ ec3 F W (Nat.le_refl _) (by omega) ((TR.of_keep (φ:=(phi fr nu)) hk hFB3).soft hF3) (hpe3.keep (hk.mono hFB3)) (NE_turn (ncl_p (phi_idem fr nu)) hF3 (TR.of_keep hk hFB3) _ _ _ g3 ⟨rfl,fun j v hv=>⟨v,hv,.refl v⟩⟩)).mono fun r w' ⟨h1,h2,h3,h4⟩=>⟨_,h1,⟨rfl,h3,h4⟩,h2⟩) ?_
     rintro W4 r4 w4 B4 hk4 ⟨rfl,ht4,cx,hcx,hnx⟩ _ hk34 hB34 _ hB4
     have hO4:RI (phi fr nu) F w B4 w4:=hO3.step (phi_idem fr nu) hFw hk4 ht4 hk34 hB34 hB4
     have ht34:TR (phi fr nu) F w3 w4:=(TR.of_keep hk4 hFB3).trans (phi_idem fr nu) ht4
     clear g1 g3 g4 g5 g6 g7 hpe3
     obtain ⟨xa4,c4,r4,hsl4,hxa4,hx4,hrv4,hxr4⟩:=adv3 hF3 ht34 (P1':=NSt (Nf (phi fr nu)) F w4) (Px':=NItx (Nf (phi fr nu)) (Np (phi fr nu)) (Np (phi fr nu)) (Np (phi fr nu)) F w4 ba bc la lc kind name e body els) (P3':=NSt (Np (phi fr nu)) F w4) (NSt_turn (ncl_f (phi_idem fr nu)) hF3 ht34) (fun _ _ h hv=>NItx_turn (ncl_f (phi_idem fr nu)) (ncl_p (phi_idem fr nu)) (ncl_p (phi_idem fr nu)) (ncl_p (phi_idem fr nu)) hF3 ht34 h hv) (NSt_turn (ncl_p (phi_idem fr nu)) hF3 ht34) hsl3 hxa3 hx3 hxr3
     have hp4:=item_at (fun _ _ h=>NSt.len h) hsl4 hxa4 hx4.len (by omega)
     have hF4:=ht34.soft hF3
     have hFB4:∀ k,F k→B4 k:=fun k h=>hO4.old k (hFw k h)
     have hx4:NItx (Nf (phi fr nu)) (Nf (phi fr nu)) (Np (phi fr nu)) (Np (phi fr nu)) F w4 ba bc la lc kind name e body els c4:=by
      obtain ⟨nm4,ec4,bx4,lx4,h1,rfl,h3,h4,h5,h6,h7⟩:=hx4
      have h8:SlAt F w4 (some ⟨gB a,oB a+l1.length*9+2,none⟩) 1 5 ec4:=slAt_part hp4 (by omega) h3.len (st_mid _ _ _ _)
      have h9:=slAt_uniq h8 hcx (by omega)
      exact ⟨nm4,ec4,bx4,lx4,h1,rfl,h9 ▸ hnx,h4,h5,h6,h7⟩
     clear hcx hnx
     obtain ⟨nm4,ec4,bx4,lx4,g1,rfl,g3,g4,g5,g6,g7⟩:=id hx4
     refine rk ?_
     refine gI 54 56 cap l1.length hsl4 hin ?_
     refine rk ?_
     refine gV (.slice ba body.length bc) (S:=Instr.loadAt 54 (.pointer (some ⟨gB a,oB a+l1.length*9+7,none⟩))) (fun W hk=>ld_pt hp4 (by kernel_rfl) 7 (st_cell g3.len _ _ _ _).1 (hk.mono hFB4)) ?_
     refine rk ?_
     refine good_callW (sy_cx _ _) [.slice ba body.length bc,nT fr,nT nu] F (Pr:=fun w r w'=>r = .tuple #[]∧TR (phi fr nu) F w w'∧∃ xs',SlAt F w' ba body.length 9 xs'∧NSts (Nf (phi fr nu)) F w' body xs') (by kernel_rfl) (by kernel_rfl) (by kernel_rfl) (by kernel_rfl) hFB4
      (fun W hk=>(ihN body _ _ _ _ F W rfl (by omega) (by omega) ((TR.of_keep (φ:=(phi fr nu)) hk hFB4).soft hF4) (g4.keep (hk.mono hFB4)) (NSts_turn (ncl_p (phi_idem fr nu)) hF4 (TR.of_keep hk hFB4) _ _ _ g5 ⟨rfl,fun j v hv=>⟨v,hv,.refl v⟩⟩)).mono fun r w' ⟨h1,h2,h3,h4⟩=>⟨_,h1,⟨rfl,h3,h4⟩,h2⟩) ?_
     rintro W5 rr5 w5 B5 hk5 ⟨rfl,ht5,cx,hcx,hnx⟩ _ hk45 hB45 _ hB5
     have hO5:RI (phi fr nu) F w B5 w5:=hO4.step (phi_idem fr nu) hFw hk5 ht5 hk45 hB45 hB5
     have ht45:TR (phi fr nu) F w4 w5:=(TR.of_keep hk5 hFB4).trans (phi_idem fr nu) ht5
     clear g1 g3 g4 g5 g6 g7
     obtain ⟨xa5,c5,r5,hsl5,hxa5,hx5,hrv5,hxr5⟩:=adv3 hF4 ht45 (P1':=NSt (Nf (phi fr nu)) F w5) (Px':=NItx (Nf (phi fr nu)) (Nf (phi fr nu)) (Np (phi fr nu)) (Np (phi fr nu)) F w5 ba bc la lc kind name e body els) (P3':=NSt (Np (phi fr nu)) F w5) (NSt_turn (ncl_f (phi_idem fr nu)) hF4 ht45) (fun _ _ h hv=>NItx_turn (ncl_f (phi_idem fr nu)) (ncl_f (phi_idem fr nu)) (ncl_p (phi_idem fr nu)) (ncl_p (phi_idem fr nu)) hF4 ht45 h hv) (NSt_turn (ncl_p (phi_idem fr nu)) hF4 ht45) hsl4 hxa4 hx4 hxr4
     have hp5:=item_at (fun _ _ h=>NSt.len h) hsl5 hxa5 hx5.len (by omega)
     have hF5:=ht45.soft hF4
     have hFB5:∀ k,F k→B5 k:=fun k h=>hO5.old k (hFw k h)
     have hx5:NItx (Nf (phi fr nu)) (Nf (phi fr nu)) (Nf (phi fr nu)) (Np (phi fr nu)) F w5 ba bc la lc kind name e body els c5:=by
      obtain ⟨nm4,ec4,bx4,lx4,h1,rfl,h3,h4,h5,h6,h7⟩:=hx5
      exact ⟨nm4,ec4,cx,lx4,h1,rfl,h3,hcx,hnx,h6,h7⟩
     clear hcx hnx
     obtain ⟨nm5,ec5,bx5,lx5,g1,rfl,g3,g4,g5,g6,g7⟩:=id hx5
     refine rk ?_
     refine gI 54 56 cap l1.length hsl5 hin ?_
     refine rk ?_
     refine gV (.slice la els.length lc) (S:=Instr.loadAt 54 (.pointer (some ⟨gB a,oB a+l1.length*9+8,none⟩))) (fun W hk=>ld_pt hp5 (by kernel_rfl) 8 (st_cell g3.len _ _ _ _).2 (hk.mono hFB5)) ?_
     refine rk ?_
     refine good_callW (sy_cx _ _) [.slice la els.length lc,nT fr,nT nu] F (Pr:=fun w r w'=>r = .tuple #[]∧TR (phi fr nu) F w w'∧∃ xs',SlAt F w' la els.length 9 xs'∧NSts (Nf (phi fr nu)) F w' els xs') (by kernel_rfl) (by kernel_rfl) (by kernel_rfl) (by kernel_rfl) hFB5
      (fun W hk=>(ihN els _ _ _ _ F W rfl (by omega) (by omega) ((TR.of_keep (φ:=(phi fr nu)) hk hFB5).soft hF5) (g6.keep (hk.mono hFB5)) (NSts_turn (ncl_p (phi_idem fr nu)) hF5 (TR.of_keep hk hFB5) _ _ _ g7 ⟨rfl,fun j v hv=>⟨v,hv,.refl v⟩⟩)).mono fun r w' ⟨h1,h2,h3,h4⟩=>⟨_,h1,⟨rfl,h3,h4⟩,h2⟩) ?_
     rintro W6 rr6 w6 B6 hk6 ⟨rfl,ht6,cx,hcx,hnx⟩ _ hk56 hB56 _ hB6
     have hO6:RI (phi fr nu) F w B6 w6:=hO5.step (phi_idem fr nu) hFw hk6 ht6 hk56 hB56 hB6
     have ht56:TR (phi fr nu) F w5 w6:=(TR.of_keep hk6 hFB5).trans (phi_idem fr nu) ht6
     clear g1 g3 g4 g5 g6 g7
     obtain ⟨xa6,c6,r6,hsl6,hxa6,hx6,hrv6,hxr6⟩:=adv3 hF5 ht56 (P1':=NSt (Nf (phi fr nu)) F w6) (Px':=NItx (Nf (phi fr nu)) (Nf (phi fr nu)) (Nf (phi fr nu)) (Np (phi fr nu)) F w6 ba bc la lc kind name e body els) (P3':=NSt (Np (phi fr nu)) F w6) (NSt_turn (ncl_f (phi_idem fr nu)) hF5 ht56) (fun _ _ h hv=>NItx_turn (ncl_f (phi_idem fr nu)) (ncl_f (phi_idem fr nu)) (ncl_f (phi_idem fr nu)) (ncl_p (phi_idem fr nu)) hF5 ht56 h hv) (NSt_turn (ncl_p (phi_idem fr nu)) hF5 ht56) hsl5 hxa5 hx5 hxr5
     have hp6:=item_at (fun _ _ h=>NSt.len h) hsl6 hxa6 hx6.len (by omega)
     have hF6:=ht56.soft hF5
     have hFB6:∀ k,F k→B6 k:=fun k h=>hO6.old k (hFw k h)
     have hx6:NItx (Nf (phi fr nu)) (Nf (phi fr nu)) (Nf (phi fr nu)) (Nf (phi fr nu)) F w6 ba bc la lc kind name e body els c6:=by
      obtain ⟨nm4,ec4,bx4,lx4,h1,rfl,h3,h4,h5,h6,h7⟩:=hx6
      exact ⟨nm4,ec4,bx4,cx,h1,rfl,h3,h4,h5,hcx,hnx⟩
     clear hcx hnx
     refine rk ?_
     refine gJ 6 l1 (St.mk kind name e body els) (by omega) ?_
     exact gU _ [(0,vL a n cap),(1,vT fr),(2,vT nu),(6,vI ((l1++[(St.mk kind name e body els)]).length:Int))] [] gz hγ0 (ih (l1++[(St.mk kind name e body els)],l3) B6 w6 ⟨by show L=(l1++[_])++l3;rw [hsp];simp,hO6,xa6++c6,r6,by rw [List.append_assoc];exact hsl6,hxa6.snoc hx6.st,hxr6⟩ lS1)
end
section
theorem app_noneT {P:Program} {z:Value} {t e:TypeId} {sz bytes:Nat} (hz1:(P.info? e).bind (fun i=>i.zero)=some z) (hu:Sy.elemOf P t=some e) (hi:Sy.infoOf P e=some (sz,bytes)) (hsz:Nat.blt 0 sz=true) {F:Nat→Prop} {w1:World} {k:Nat} {a:Option Addr} {n c:Nat} {xs:List Value} (h:Sy.SlAt F w1 a n sz xs) (hb:n*bytes≤140737488355328) (h63:n≤maxLen):
  ∀ w,Sy.Keep F w1 w→∀ ty,∃ r w',(Builtin.append_ [t,t].toArray ty #[.slice (some ⟨k,0,none⟩) 0 0,.slice a n c]).run P w = .ok r w'∧(∃ a' cap',r = .slice a' n cap'∧Sy.SlAt (NewS w w') w' a' n sz xs)∧Below w.heap.size w w':=fun w hk ty=>
 let ⟨r,w',h1,⟨a',cap',zs,h2,h3,_⟩,h4⟩:=app_noneS hz1 hu hi hsz h hb h63 w hk ty
 ⟨r,w',h1,⟨a',cap',h2,h3⟩,h4⟩
def CopyPrQ (e:Ex) (w:World) (r:Value) (w':World):Prop:=∃ ds:List Value,r = .agg ds.toArray∧ExAt (NewS w w') w' e ds
def CpInvQ (w:World) (kids:List Ex) (b:Nat) (i:CpI) (B:Nat→Prop) (w1:World):Prop:=
 kids=i.l1++i.l2∧Sy.Keep (·<w.heap.size) w w1∧(∀ k,k<w.heap.size→B k)∧(∀ k,B k→k<w1.heap.size)∧ExsAt (fun k=>B k∧w.heap.size≤k∧Soft w1 k) w1 i.l1 i.xs∧Sy.RowAt 34 5 b i.l1.length i.xs i.X i.ob
open Go.Sy in
set_option maxRecDepth 100000 in
theorem copyExprQ_any:∀ (N:Nat) (e:Ex) (cs:List Value) (w:World),wgt e≤N→wgt e≤1099511627776→ExAt (·<w.heap.size) w e cs→
  Calls Tryz.prog 15 #[.agg cs.toArray] w fun r w'=>∃ v,r = .returned v∧CopyPrQ e w v w'∧Below w.heap.size w w':=by
 intro N
 induction N with
 | zero=>intro e cs w h;have:=wgt_pos e;omega
 | succ N ihN=>
   intro e cs w hN hbd hat
   obtain ⟨op,ty,bits,name,kids⟩:=e
   simp only [ExAt] at hat
   obtain ⟨a,cap,xs,rfl,hsl,hks⟩:=hat
   simp only [wgt] at hN hbd
   obtain ⟨n,hn⟩:∃ n,n=kids.length:=⟨_,rfl⟩
   have hnl:=wgts_len kids
   rw [← hn] at hsl hnl ⊢
   refine eN [xV op ty bits name a n cap] Tryz.func15 (fun γ0 hγ0=>?_)
   refine rk ?_
   refine good_toLp ?_
   refine good_loopB (fun i:CpI=>i.l2.length) (CpInvQ w kids (gz+3)) (fun i=>⟨mkT [(1,.ptr gz 0),(2,.ptr (gz+1) 0),(3,.ptr (gz+2) 0),(4,vI (i.l1.length:Int))],mkH [(gz,bK 34 5 [.v (.int .u8 op),.v (.int .u8 ty),.v (.int .u64 bits),vT name,vL a n cap]),(gz+1,bK 34 5 [.v (.int .u8 0),.v (.int .u8 0),.v (.int .u64 0),vT [],vL none 0 0]),(gz+2,bK 34 5 [.v (.int .u8 op),.v (.int .u8 ty),.v (.int .u64 bits),vT name,i.X]),(gz+3,i.ob)],gz+4,[]⟩)
    ⟨[],kids,[],vL none 0 0,none⟩ ⟨rfl,Keep.refl _ _,fun k h=>h,fun k h=>h,rfl,RowAt.nil _ _ _⟩ (by kernel_rfl)
    (fun h=>gU _ [(1,.ptr gz 0),(2,.ptr (gz+1) 0),(3,.ptr (gz+2) 0),(4,vI (([]:List Ex).length:Int))] [(gz,bK 34 5 [.v (.int .u8 op),.v (.int .u8 ty),.v (.int .u64 bits),vT name,vL a n cap]),(gz+1,bK 34 5 [.v (.int .u8 0),.v (.int .u8 0),.v (.int .u64 0),vT [],vL none 0 0]),(gz+2,bK 34 5 [.v (.int .u8 op),.v (.int .u8 ty),.v (.int .u64 bits),vT name,vL none 0 0]),(gz+3,none)] (gz+4) (fun b hb=>hγ0 b (Nat.le_trans (Nat.le_add_right _ 4) hb)) h) ?_
   rintro ⟨l1,l2,xk,X,ob⟩ B1 w1 ⟨hI,hk1,hB0,hB1,hxk,hrow⟩ ih
   simp only at hI hxk hrow
   have hn2:n=l1.length+l2.length:=by rw [hn,hI,List.length_append]
   have hw1:wgts kids=wgts l1+wgts l2:=by rw [hI,wgts_app]
   have hsl1:SlAt B1 w1 a n 5 xs:=(hsl.keep hk1).mono hB0
   refine rk ?_
   cases l2 with
   | nil=>
     have hn3:n=l1.length:=by rw [hn2];simp
     refine ky (l1.length:Int) (n:Int) (by omega) ?_
     have hfin:∀ (γ:Gm) (W:World) (v x:Value) (h:Hp) (cc:Nat),v = .agg #[.int .u8 op,.int .u8 ty,.int .u64 bits,nT name,x]→VR γ X x→HR B1 Tryz.prog.globals.size γ h cc W→h.get (gz+3)=ob→Keep B1 w1 W→(∃ v',Ending.returned v = .returned v'∧CopyPrQ (.mk op ty bits name kids) w v' W∧Below w.heap.size w W):=by
      intro γ W v x h cc hv hx hH hb hkW
      subst hv
      obtain ⟨hown,_⟩:=row_own (base:=w.heap.size) hrow hb hH hx (fun k hk=>Nat.le_of_not_lt (fun h=>hk (hB0 k h)))
      obtain ⟨a',cap',rfl,_,hsl'⟩:=SlAt_ownS (F:=NewS w W) hown (fun k h1 h2 h3=>⟨⟨h1,h2⟩,h3⟩)
      refine ⟨_,rfl,⟨_,rfl,?_⟩,(hk1.trans (hkW.mono hB0)).below⟩
      simp only [ExAt]
      have hkl:l1=kids:=by rw [hI];simp
      rw [← hn3,hn] at hsl' ⊢
      refine ⟨a',cap',xk,rfl,hsl',?_⟩
      rw [hkl] at hxk
      exact hxk.keep (hkW.mono fun k hk=>hk.1) (fun k hk=>⟨⟨hk.2.1,Nat.lt_of_lt_of_le (hB1 k hk.1) hkW.size⟩,hk.2.2.keep hkW hk.1⟩)
     rcases hrow.2 with ⟨hX,hob,h0⟩ | ⟨hX,hob⟩
     · subst hX hob
       refine rk ?_
       refine good_end (av := .agg [.v (.int .u8 op),.v (.int .u8 ty),.v (.int .u64 bits),vT name,vL none 0 0]) (by kernel_rfl) (fun γ W v _ hv hH hkW=>?_)
       obtain ⟨x,rfl,hx⟩:=VR_agg5 hv
       exact hfin γ W _ x _ _ rfl hx hH (by kernel_rfl) hkW
     · subst hX hob
       refine rk ?_
       refine good_end (av := .agg [.v (.int .u8 op),.v (.int .u8 ty),.v (.int .u64 bits),vT name,.slg (gz+3) 0 l1.length 5]) (by kernel_rfl) (fun γ W v _ hv hH hkW=>?_)
       obtain ⟨x,rfl,hx⟩:=VR_agg5 hv
       exact hfin γ W _ x _ _ rfl hx hH (by kernel_rfl) hkW
   | cons e l3=>
     have hin:l1.length<n:=by rw [hn2,List.length_cons];omega
     have hks2:=hks
     rw [hI] at hks2
     obtain ⟨c,hc,hcell⟩:=hks2.at_
     have hcl:=hc.len
     simp only [wgts] at hw1
     have hwe:=wgt_pos e
     have hc1:ExAt B1 w1 e c:=hc.keep hk1 hB0
     refine kx (l1.length:Int) (n:Int) (by omega) ?_
     refine rk ?_
     have hXlt:avLt (gz+4) X=true:=hrow.lt (by omega)
     refine good_lock [gz,gz+2] (gz+3) (by kernel_rfl) (fun b hb=>hγ0 b (Nat.le_trans (Nat.le_add_right _ 3) hb)) ?_
     intro γ1 B2 w2 hle1 hγ1 hB12 hB2 hk12 hLk
     refine good_plan sy_mixed (.take 0 (.take 1 (.take 2 (.take 3 (.take 4 (.take 5 (.take 6 (.run 7 (.run 8 (.run 9 (.take 10 .done))))))))))) 11 (by kernel_rfl) ?_
     have hL2:∀ b,hasNat b [gz,gz+2]=true→∃ p,γ1 b=some p∧B2 p.1:=fun b hb=>let ⟨p,h1,h2,_⟩:=hLk b hb;⟨p,h1,h2⟩
     refine p_takes [gz,gz+2] 1 (Bs:=B2) (ws:=w2) (by kernel_rfl) (fun _ h=>h) hL2 ?_
     refine p_load [gz,gz+2] X (by kernel_rfl) (by rcases hrow.2 with ⟨h,_⟩ | ⟨h,_⟩ <;> rw [h] <;> kernel_rfl) (Bs:=B2) (ws:=w2) (by kernel_rfl) (fun _ h=>h) hL2 ?_
     refine p_takes [gz,gz+2] 3 (Bs:=B2) (ws:=w2) (by kernel_rfl) (fun _ h=>h) hL2 ?_
     have hsl2:SlAt B2 w2 a n 5 xs:=(hsl1.keep hk12).mono hB12
     refine p_val (.pointer (some ⟨gB a,oB a+l1.length*5,none⟩)) (S:=Instr.indexAt 32 (.slice a n cap) (nI (l1.length:Int))) (by kernel_rfl) (Bs:=B2) (ws:=w2) (by kernel_rfl) (fun _ h=>h) (fun W _=>idx_sl (e:=34) hsl2 (by kernel_rfl) (by kernel_rfl) hin W) ?_
     have hld:=fun W hk=>load_slA (P:=Tryz.prog) (ty:=34) (m:=5) (cs:=c) hsl2 (by kernel_rfl) (by kernel_rfl) l1.length 0 hcl hcell (W:=W) hk
     have hcall:=fun (W:World) (hk:Keep B2 w2 W)=>ihN e c W (by omega) (by omega) ((hc1.keep hk12 hB12).keep hk (fun k h=>Nat.lt_of_lt_of_le (hB2 k h) hk.size))
     obtain ⟨op2,ty2,bits2,name2,kids2⟩:=e
     simp only [ExAt] at hc
     obtain ⟨a2,cap2,xs2,rfl,_⟩:=hc
     refine p_val (xV op2 ty2 bits2 name2 a2 kids2.length cap2) (S:=Instr.loadAt 34 (.pointer (some ⟨gB a,oB a+l1.length*5+0,none⟩))) (by kernel_rfl) (Bs:=B2) (ws:=w2) (by kernel_rfl) (fun _ h=>h) (fun W hk=>hld W hk) ?_
     refine pR (Keep B2 w2) (fun _ h=>h) ?_
     refine gM [xV op2 ty2 bits2 name2 a2 kids2.length cap2] (fun W hk=>hcall W hk) ?_
     intro wa r w3 B3 hka hpr hba hk23 hB23 hB3 hB3s
     obtain ⟨ds,rfl,hds⟩:=hpr
     have hds0:=hds
     simp only [ExAt] at hds0
     obtain ⟨a3,cap3,xs3,rfl,_⟩:=hds0
     have hS3:∀ W,Keep B3 w3 W→Keep B2 w2 W:=fun W hk=>hk23.trans (hk.mono hB23)
     refine rk ?_
     refine pR (Keep B2 w2) hS3 ?_
     refine rk ?_
     refine pR (Keep B2 w2) hS3 ?_
     refine good_plain (gz+2) 4 (by kernel_rfl) (fun xold=>?_)
     refine good_app (t:=32) (e:=34) (.slg (gz+4) 0 1 5) 5 64 (gz+3) l1.length 0 xk X ob (xL op2 ty2 bits2 name2 a3 kids2.length cap3) [15] (by kernel_rfl) (by kernel_rfl) (by kernel_rfl) (by kernel_rfl) hrow (by kernel_rfl) (by kernel_rfl) (by kernel_rfl)
      (by unfold maxLen;omega) (by omega) (hγ1 (gz+3) (Nat.le_refl _)) (by kernel_rfl) (by kernel_rfl) (by kernel_rfl) (by kernel_rfl) (by kernel_rfl) (fun X' ob' hrow'=>?_)
     rcases hrow'.2 with ⟨_,_,h0⟩ | ⟨rfl,rfl⟩
     · omega
     refine rk ?_
     refine p_takes [gz,gz+2] 1 (Bs:=B2) (ws:=w2) (by kernel_rfl) hS3 hL2 ?_
     refine p_done (by kernel_rfl) ?_ (Keep B2 w2) (by kernel_rfl) hS3
     refine good_unlock [gz,gz+2] (by kernel_rfl) (fun b hb=>let ⟨p,h1,_⟩:=hLk b hb;⟨p,h1⟩) ?_
     intro B4 hB43 hB34
     refine rk ?_
     refine gS 4 (x:=nI (wrapF .i64 ((l1.length:Int)+1))) (nI ((l1++[(Ex.mk op2 ty2 bits2 name2 kids2)]).length:Nat)) (by rw [wr64 (by omega) (by omega)];congr 1;simp) ?_
     have hlk:∀ b p,hasNat b [gz,gz+2]=true→γ1 b=some p→B2 p.1∧¬ B1 p.1:=fun b p hb hp=>by
      obtain ⟨q,h1,h2,h3⟩:=hLk b hb
      rw [hp] at h1
      injection h1 with h1
      subst h1
      exact ⟨h2,h3⟩
     have hB14:∀ k,B1 k→B4 k:=fun k hk=>hB34 k (hB23 k (hB12 k hk)) (fun b p hb hp e=>(hlk b p hb hp).2 (e ▸ hk))
     have hk13:Keep B1 w1 w3:=hk12.trans (hk23.mono hB12)
     have hk14:Keep (·<w.heap.size) w w3:=hk1.trans (hk13.mono hB0)
     have hsz:w.heap.size≤wa.heap.size:=Nat.le_trans hk1.size (Nat.le_trans hk12.size hka.size)
     have hnew:∀ k,NewS wa w3 k→B4 k∧w.heap.size≤k∧Soft w3 k:=fun k hk=>⟨hB34 k (hB3 k hk.1.1 hk.1.2) (fun b p hb hp e=>by
      have h1:=hB2 p.1 (hlk b p hb hp).1
      have h2:=hk.1.1
      have h3:=hka.size
      omega),Nat.le_trans hsz hk.1.1,hk.2⟩
     have hI4:CpInvQ w kids (gz+3) ⟨l1++[(Ex.mk op2 ty2 bits2 name2 kids2)],l3,xk++(xL op2 ty2 bits2 name2 a3 kids2.length cap3),.slg (gz+3) 0 (l1.length+(0+1)) 5,some (.row 34 (xk++(xL op2 ty2 bits2 name2 a3 kids2.length cap3)))⟩ B4 w3:=by
      refine ⟨by show kids=(l1++[_])++l3;rw [hI];simp,hk14,fun k hk=>hB14 k (hB0 k hk),fun k hk=>hB3s k (hB43 k hk),?_,?_⟩
      · exact (hxk.keep (hk13.mono fun k hk=>hk.1) (fun k hk=>⟨hB14 k hk.1,hk.2.1,hk.2.2.keep hk13 hk.1⟩)).snoc (hds.keep (Keep.refl _ _) hnew)
      · show RowAt _ 5 (gz+3) (l1++[_]).length _ _ _
        rw [List.length_append]
        exact hrow'
     exact gU _ [(1,.ptr gz 0),(2,.ptr (gz+1) 0),(3,.ptr (gz+2) 0),(4,vI ((l1++[(Ex.mk op2 ty2 bits2 name2 kids2)]).length:Int))] [(gz,bK 34 5 [.v (.int .u8 op),.v (.int .u8 ty),.v (.int .u64 bits),vT name,vL a n cap]),(gz+1,bK 34 5 [.v (.int .u8 0),.v (.int .u8 0),.v (.int .u64 0),vT [],vL none 0 0]),(gz+2,bK 34 5 [.v (.int .u8 op),.v (.int .u8 ty),.v (.int .u64 bits),vT name,.slg (gz+3) 0 (l1.length+(0+1)) 5]),(gz+3,some (.row 34 (xk++(xL op2 ty2 bits2 name2 a3 kids2.length cap3))))] (gz+4) (fun b hb=>hγ1 b (Nat.le_trans (Nat.le_succ _) hb))
      ((ih _ B4 w3 hI4 lS1).up hle1)
end
section
set_option maxRecDepth 100000
open Go.Sy
theorem copyTextsQ_any (a:Option Addr) (n cap:Nat) (xs:List Value) (w:World) (hbd:n≤1099511627776) (hsl:SlAt (·<w.heap.size) w a n 1 xs):
  Calls Tryz.prog 49 #[.slice a n cap] w fun r w'=>∃ v,r = .returned v∧(∃ a' cap',v = .slice a' n cap'∧SlAt (NewS w w') w' a' n 1 xs)∧Below w.heap.size w w':=by
 refine eN [.slice a n cap] Tryz.func49 (fun γ0 hγ0=>?_)
 refine rs [5] 60 0 ?_
 refine good_fix 3 gz 1 (by kernel_rfl) (by kernel_rfl) (by kernel_rfl) (fun k=>?_)
 refine good_appM (.slice (some ⟨k,0,none⟩) 0 0) (.slice a n cap) [23,23] (by kernel_rfl) (fun W hk=>app_noneT (z := .string { data:=#[] }) (e:=9) (sz:=1) (bytes:=16) (by kernel_rfl) (by kernel_rfl) (by kernel_rfl) (by kernel_rfl) hsl (by omega) (by unfold maxLen;omega) W hk) ?_
 rintro w1 r w2 B2 hk1 ⟨a2,cap2,rfl,hsl2⟩ hbl hk2 hB02 hBn hB2
 refine rk ?_
 refine gR (.slice a2 n cap2) (fun W hk=>⟨_,rfl,⟨a2,cap2,rfl,?_⟩,(hk2.trans (hk.mono hB02)).below⟩)
 exact (hsl2.keep (hk.mono fun k h=>hBn k h.1.1 h.1.2)).mono fun k h=>h.up (hk.mono fun k h=>hBn k h.1.1 h.1.2) h hk1.size hk.size
def StsPrQ (L:List St) (w:World) (v:Value) (w':World):Prop:=∃ a' cap' xs',v = .slice a' L.length cap'∧Sy.SlAt (NewS w w') w' a' L.length 9 xs'∧StsAt (NewS w w') w' L xs'
theorem copyStmtsQ_any:∀ (N:Nat) (L:List St) (a:Option Addr) (n cap:Nat) (xs:List Value) (w:World),n=L.length→swts L<N→swts L≤1000000000000→SlAt (·<w.heap.size) w a n 9 xs→LsAt (StAt (·<w.heap.size) w) L xs→
  Calls Tryz.prog 50 #[.slice a n cap] w fun r w'=>∃ v,r = .returned v∧StsPrQ L w v w'∧Below w.heap.size w w':=by
 intro N
 induction N with
 | zero=>intro L a n cap xs w hn h;omega
 | succ N ihN=>
   intro L a n cap xs w hn hN hbd hsl hks
   have hnl:=swts_len L
   refine eN [.slice a n cap] Tryz.func50 (fun γ0 hγ0=>?_)
   refine rk ?_
   refine good_toLp ?_
   refine good_loopB (fun i:CI St=>i.l2.length) (CInvS StAt 56 9 w L gz) (fun i=>⟨mkT [(0,vL a n cap),(3,i.X),(4,vI (i.l1.length:Int))],mkH [(gz,i.ob)],gz+1,[]⟩)
    ⟨[],L,[],vL none 0 0,none⟩ ⟨rfl,Keep.refl _ _,fun k h=>h,fun k h=>h,rfl,RowAt.nil _ _ _⟩ (by kernel_rfl)
    (fun h=>gU _ [(0,vL a n cap),(3,vL none 0 0),(4,vI (([]:List St).length:Int))] [(gz,none)] (gz+1) (fun b hb=>hγ0 b (Nat.le_trans (Nat.le_succ _) hb)) h) ?_
   rintro ⟨l1,l2,xk,X,ob⟩ B1 w1 ⟨hI,hk1,hB0,hB1,hxk,hrow⟩ ih
   simp only at hI hxk hrow
   have hn2:n=l1.length+l2.length:=by rw [hn,hI,List.length_append]
   have hw1:swts L=swts l1+swts l2:=by rw [hI,swts_app]
   have hsl1:SlAt B1 w1 a n 9 xs:=(hsl.keep hk1).mono hB0
   have hXlt:avLt (gz+1) X=true:=hrow.lt (by omega)
   refine rk ?_
   cases l2 with
   | nil=>
     have hn3:n=l1.length:=by rw [hn2];simp
     refine ky (l1.length:Int) (n:Int) (by omega) ?_
     have hfin:∀ (γ:Gm) (W:World) (x:Value) (h:Hp) (cc:Nat),VR γ X x→HR B1 Tryz.prog.globals.size γ h cc W→h.get gz=ob→Keep B1 w1 W→(∃ v',Ending.returned x = .returned v'∧StsPrQ L w v' W∧Below w.heap.size w W):=by
      intro γ W x h cc hx hH hb hkW
      obtain ⟨hown,_⟩:=row_own (base:=w.heap.size) hrow hb hH hx (fun k hk=>Nat.le_of_not_lt (fun h=>hk (hB0 k h)))
      obtain ⟨a',cap',rfl,_,hsl'⟩:=SlAt_ownS (F:=NewS w W) hown (fun k h1 h2 h3=>⟨⟨h1,h2⟩,h3⟩)
      refine ⟨_,rfl,?_,(hk1.trans (hkW.mono hB0)).below⟩
      have hkl:l1=L:=by rw [hI];simp
      rw [hkl] at hsl' hxk
      refine ⟨a',cap',xk,by rw [hkl],hsl',?_⟩
      exact StsAt_ls.2 (hxk.imp fun _ _ h=>h.keep (hkW.mono fun k hk=>hk.1) (fun k hk=>⟨⟨hk.2.1,Nat.lt_of_lt_of_le (hB1 k hk.1) hkW.size⟩,hk.2.2.keep hkW hk.1⟩))
     rcases hrow.2 with ⟨hX,hob,h0⟩ | ⟨hX,hob⟩
     ·
      subst hX hob
      refine rk ?_
      exact good_end (av:=vL none 0 0) (by kernel_rfl) (fun γ W v _ hv hH hkW=>hfin γ W v _ _ hv hH (by kernel_rfl) hkW)
     ·
      subst hX hob
      refine rk ?_
      exact good_end (av := .slg gz 0 l1.length 9) (by kernel_rfl) (fun γ W v _ hv hH hkW=>hfin γ W v _ _ hv hH (by kernel_rfl) hkW)
   | cons s l3=>
     have hin:l1.length<n:=by rw [hn2,List.length_cons];omega
     have hks2:=StsAt_ls.2 hks
     rw [hI] at hks2
     obtain ⟨c,hc,hcell⟩:=hks2.at_
     have hc1:StAt B1 w1 s c:=hc.keep hk1 hB0
     simp only [swts] at hw1
     obtain ⟨uK,us,⟨uo,ut,uv,un,uk⟩,uB,uL⟩:=s
     simp only [StAt] at hc
     obtain ⟨ucs,uj,uh,ubx,ui,uw,ulx,rfl,uhe,uhbs,uhbt,uhls,uhlt⟩:=hc
     have uhe0:=uhe
     simp only [ExAt] at uhe0
     obtain ⟨uf,ug,uex,rfl,_⟩:=uhe0
     have hcell:∀ j v,((yL uK us uo ut uv un uf uk.length ug uj uB.length uh ui uL.length uw):List Value)[j]?=some v→xs[l1.length*9+j]?=some v:=hcell
     have umid:∀ j v,((xL uo ut uv un uf uk.length ug):List Value)[j]?=some v→xs[l1.length*9+2+j]?=some v:=cell_part hcell 2 (mid_get [_,_] (xL uo ut uv un uf uk.length ug) [_,_])
     simp only [swt] at hw1
     refine kx (l1.length:Int) (n:Int) (by omega) ?_
     refine rk ?_
     refine gI 54 56 cap l1.length hsl1 hin ?_
     refine rk ?_
     refine gD 56 9 (yL uK us uo ut uv un uf uk.length ug uj uB.length uh ui uL.length uw) l1.length 0 hsl1 rfl hcell ?_
     refine rk ?_
     refine gM [xV uo ut uv un uf uk.length ug] (fun W hk=>copyExprQ_any _ (Ex.mk uo ut uv un uk) (xL uo ut uv un uf uk.length ug) W (Nat.le_refl _) (by omega) (uhe.keep (hk1.trans (hk.mono hB0)) (fun k h=>Nat.lt_of_lt_of_le h (hk1.trans (hk.mono hB0)).size))) ?_
     rintro wa r w2 B2 hka ⟨ds,rfl,hds⟩ hba hk12 hB12 hBn2 hB2
     have hds0:=hds
     simp only [ExAt] at hds0
     obtain ⟨ea,ecap,exs,rfl,_⟩:=hds0
     have hk02:Keep (·<w.heap.size) w w2:=hk1.trans (hk12.mono hB0)
     refine rk ?_
     refine gM [.slice uj uB.length uh] (fun W hk=>ihN uB _ _ _ _ W rfl (by omega) (by omega) ((uhbs.keep (hk02.trans (hk.mono fun k h=>hB12 k (hB0 k h)))).mono (fun k h=>Nat.lt_of_lt_of_le h (hk02.trans (hk.mono fun k h=>hB12 k (hB0 k h))).size)) (StsAt_ls.1 (uhbt.keep (hk02.trans (hk.mono fun k h=>hB12 k (hB0 k h))) (fun k h=>Nat.lt_of_lt_of_le h (hk02.trans (hk.mono fun k h=>hB12 k (hB0 k h))).size)))) ?_
     rintro wbody r w3 B3 hkbody ⟨pa,pac,pax,rfl,pas,pat⟩ hbbody hk23 hB23 hBn3 hB3
     have hk03:Keep (·<w.heap.size) w w3:=hk02.trans (hk23.mono fun k h=>hB12 k (hB0 k h))
     refine rk ?_
     refine gM [.slice ui uL.length uw] (fun W hk=>ihN uL _ _ _ _ W rfl (by omega) (by omega) ((uhls.keep (hk03.trans (hk.mono fun k h=>hB23 k (hB12 k (hB0 k h))))).mono (fun k h=>Nat.lt_of_lt_of_le h (hk03.trans (hk.mono fun k h=>hB23 k (hB12 k (hB0 k h)))).size)) (StsAt_ls.1 (uhlt.keep (hk03.trans (hk.mono fun k h=>hB23 k (hB12 k (hB0 k h)))) (fun k h=>Nat.lt_of_lt_of_le h (hk03.trans (hk.mono fun k h=>hB23 k (hB12 k (hB0 k h)))).size)))) ?_
     rintro wels r w4 B4 hkels ⟨qa,qac,qax,rfl,qas,qat⟩ hbels hk34 hB34 hBn4 hB4
     have hk04:Keep (·<w.heap.size) w w4:=hk03.trans (hk34.mono fun k h=>hB23 k (hB12 k (hB0 k h)))
     refine rs [31] 60 0 ?_
     refine good_app (t:=54) (e:=56) (.slg (gz+2) 0 1 9) 9 136 gz l1.length 0 xk X ob (yL uK us uo ut uv un ea uk.length ecap pa uB.length pac qa uL.length qac) [3,28] (by kernel_rfl) (by kernel_rfl) (by kernel_rfl) (by kernel_rfl) hrow (by kernel_rfl) (by kernel_rfl) (by kernel_rfl)
      (by unfold maxLen;omega) (by omega) (hγ0 gz (Nat.le_refl _)) (by kernel_rfl) (by kernel_rfl) (by kernel_rfl) (by kernel_rfl) (by kernel_rfl) (fun X' ob' hrow'=>?_)
     rcases hrow'.2 with ⟨_,_,h0⟩ | ⟨rfl,rfl⟩
     · omega
     refine rk ?_
     refine gJ 4 l1 (St.mk uK us (Ex.mk uo ut uv un uk) uB uL) (by omega) ?_
     have hB14:∀ k,B1 k→B4 k:=fun k h=>hB34 k (hB23 k (hB12 k h))
     have hk14:Keep B1 w1 w4:=hk12.trans ((hk23.trans (hk34.mono hB23)).mono hB12)
     have hsz1:=hk1.size
     have hsza:=hka.size
     have hszb:=hkbody.size
     have hszc:=hkels.size
     have hs12:=hk12.size
     have hs23:=hk23.size
     have hs34:=hk34.size
     have hst:StAt (fun k=>B4 k∧w.heap.size≤k∧Soft w4 k) w4 (St.mk uK us (Ex.mk uo ut uv un uk) uB uL) (yL uK us uo ut uv un ea uk.length ecap pa uB.length pac qa uL.length qac):=by
      simp only [StAt]
      refine ⟨(xL uo ut uv un ea uk.length ecap),pa,pac,pax,qa,qac,qax,rfl,hds.keep ((hk23.trans (hk34.mono hB23)).mono fun k h=>hBn2 k h.1.1 h.1.2) (fun k h=>⟨hB34 k (hB23 k (hBn2 k h.1.1 h.1.2)),(by have:=h.1.1;omega),h.2.keep (hk23.trans (hk34.mono hB23)) (hBn2 k h.1.1 h.1.2)⟩),?_,?_,?_,?_⟩
      · exact ((pas.keep (hk34.mono fun k h=>hBn3 k h.1.1 h.1.2)).mono fun k h=>⟨hB34 k (hBn3 k h.1.1 h.1.2),(by have:=h.1.1;omega),h.2.keep hk34 (hBn3 k h.1.1 h.1.2)⟩)
      · exact pat.keep (hk34.mono fun k h=>hBn3 k h.1.1 h.1.2) fun k h=>⟨hB34 k (hBn3 k h.1.1 h.1.2),(by have:=h.1.1;omega),h.2.keep hk34 (hBn3 k h.1.1 h.1.2)⟩
      · exact qas.mono fun k h=>⟨hBn4 k h.1.1 h.1.2,(by have:=h.1.1;omega),h.2⟩
      · exact qat.keep (Keep.refl _ _) fun k h=>⟨hBn4 k h.1.1 h.1.2,(by have:=h.1.1;omega),h.2⟩
     have hI4:CInvS StAt 56 9 w L gz ⟨l1++[(St.mk uK us (Ex.mk uo ut uv un uk) uB uL)],l3,xk++(yL uK us uo ut uv un ea uk.length ecap pa uB.length pac qa uL.length qac),.slg gz 0 (l1.length+(0+1)) 9,some (.row 56 (xk++(yL uK us uo ut uv un ea uk.length ecap pa uB.length pac qa uL.length qac)))⟩ B4 w4:=by
      refine ⟨by show L=(l1++[_])++l3;rw [hI];simp,hk04,fun k hk=>hB14 k (hB0 k hk),hB4,?_,?_⟩
      · exact LsAt.snoc (hxk.imp fun _ _ h=>h.keep (hk14.mono fun k hk=>hk.1) (fun k hk=>⟨hB14 k hk.1,hk.2.1,hk.2.2.keep hk14 hk.1⟩)) hst
      · show RowAt _ 9 gz (l1++[_]).length _ _ _
        rw [List.length_append]
        exact hrow'
     exact gU _ [(0,vL a n cap),(3,.slg gz 0 (l1.length+(0+1)) 9),(4,vI ((l1++[(St.mk uK us (Ex.mk uo ut uv un uk) uB uL)]).length:Int))] [(gz,some (.row 56 (xk++(yL uK us uo ut uv un ea uk.length ecap pa uB.length pac qa uL.length qac))))] (gz+1) (fun b hb=>hγ0 b (Nat.le_trans (Nat.le_succ _) hb)) (ih _ B4 w4 hI4 lS1)
end
end Go.Proofs.YtiacalnkmnckjaaGreatDoor
