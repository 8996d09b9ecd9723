/- Texts of this proof, one behind the other. Conditions: those in each theorem. -/
import Derived.Test.YtiacalnkmnckjaaGreatDoorTapQ9
import Derived.Test.YtiacalnkmnckjaaGreatDoorTapQ7
import Derived.Test.YtiacalnkmnckjaaGreatDoorTapQ1
import Derived.Test.YtiacalnkmnckjaaGreatDoorTapQ8
set_option linter.unusedVariables false
set_option linter.unusedSimpArgs false
section
namespace Go.Proofs.YtiacalnkmnckjaaGreatDoor
open Go.RowKit Go.As
def Soft (w:World) (k:Nat):Prop:=∃ c e,w.heap[k]?=some (.cells c e (0,0))
def NewS (w w':World) (k:Nat):Prop:=NewIn w w' k∧Soft w' k
theorem Soft.keep {F:Nat→Prop} {w w':World} {k:Nat} (h:Soft w k) (hk:Sy.Keep F w w') (hF:F k):Soft w' k:=by
 obtain ⟨c,e,h⟩:=h
 exact ⟨c,e,by rw [hk.block k hF];exact h⟩
theorem NewS.up {F:Nat→Prop} {wa w2 w W:World} {k:Nat} (h:NewS wa w2 k) (hk:Sy.Keep F w2 W) (hF:F k) (h1:w.heap.size≤wa.heap.size) (h2:w2.heap.size≤W.heap.size):NewS w W k:=
 ⟨⟨Nat.le_trans h1 h.1.1,Nat.lt_of_lt_of_le h.1.2 h2⟩,h.2.keep hk hF⟩
theorem SlAt_ownS {F:Nat→Prop} {w:World} {base e sz n:Nat} {x:Value} {xs:List Value} (h:w.ownsRow base e sz x n xs) (hF:∀ k,base≤k→k<w.heap.size→Soft w k→F k):∃ a cap,x = .slice a n cap∧n≤cap∧Sy.SlAt F w a n sz xs:=by
 obtain ⟨hl,⟨rfl,rfl⟩ | ⟨g,cap,cur,rfl,hb,hh,hnc,hcm,hcs,ht⟩⟩:=h
 · exact ⟨none,0,rfl,Nat.le_refl _,⟨hl,.inl rfl⟩⟩
 · refine ⟨some ⟨g,0,none⟩,cap,rfl,hnc,⟨hl,.inr ⟨rfl,hF g hb (Array.getElem?_eq_some_iff.1 hh).1 ⟨_,_,hh⟩,fun j v hv=>?_⟩⟩⟩
   rw [← ht] at hv
   have hj:=(List.getElem?_eq_some_iff.1 hv).1
   rw [List.length_take] at hj
   rw [List.getElem?_take,if_pos (by omega)] at hv
   simp only [Sy.gB,Sy.oB,Nat.zero_add]
   simp [World.cell?,hh]
   simpa using hv
def CInvS {α:Type} (At:(Nat→Prop)→World→α→List Value→Prop) (e sz:Nat) (w:World) (L:List α) (b:Nat) (i:CI α) (B:Nat→Prop) (w1:World):Prop:=
 L=i.l1++i.l2∧Sy.Keep (·<w.heap.size) w w1∧(∀ k,k<w.heap.size→B k)∧(∀ k,B k→k<w1.heap.size)∧LsAt (At (fun k=>B k∧w.heap.size≤k∧Soft w1 k) w1) i.l1 i.xs∧Sy.RowAt e sz b i.l1.length i.xs i.X i.ob
def EachPr {α:Type} (At:(Nat→Prop)→World→α→List Value→Prop) (sz:Nat) (L:List α) (w:World) (v:Value) (w':World):Prop:=
 ∃ a' cap' xs',v = .slice a' L.length cap'∧Sy.SlAt (NewS w w') w' a' L.length sz xs'∧LsAt (At (NewS w w') w') L xs'
def OnePr {α:Type} (At:(Nat→Prop)→World→α→List Value→Prop) (x:α) (w:World) (v:Value) (w':World):Prop:=∃ ds:List Value,v = .agg ds.toArray∧At (NewS w w') w' x ds
open Go.Sy in
set_option maxRecDepth 100000 in
theorem eachEx (N:Nat) (H:∀ (s:Ex) (cs:List Value) (w:World),wgt s≤N→wgt s≤1000000000000→ExAt (·<w.heap.size) w s cs→
   Calls Tryz.prog 208 #[.agg cs.toArray] w fun r w'=>∃ v,r = .returned v∧OnePr ExAt s w v w'∧Below w.heap.size w w')
  (L:List Ex) (a:Option Addr) (n cap:Nat) (xs:List Value) (w:World) (hn:n=L.length) (hN:wgts L≤N) (hbd:wgts L≤1000000000000) (hsl:SlAt (·<w.heap.size) w a n 5 xs) (hks:LsAt (ExAt (·<w.heap.size) w) L xs):
  Calls Tryz.prog 241 #[.slice a n cap,.func (.func 208) #[] #[]] w fun r w'=>∃ v,r = .returned v∧EachPr ExAt 5 L w v w'∧Below w.heap.size w w':=by
 have hnl:=wgts_len L
 refine Sy.enter (vs:=[.slice a n cap,.func (.func 208) #[] #[]]) sy_fine Tryz.func241 rfl (fun γ=>norms_LR _) rfl (fun γ0 hγ0=>?_)
 refine rk ?_
 refine good_toLp ?_
 refine good_loopB (fun i:CI Ex=>i.l2.length) (CInvS ExAt 34 5 w L gz) (fun i=>⟨mkT [(1,norm (.func (.func 208) #[] #[])),(5,i.X),(8,.v (.slice a n cap)),(9,.v (.int .i64 (n:Int))),(10,.v (.int .i64 (i.l1.length:Int)))],mkH [(gz,i.ob)],gz+1,[]⟩)
  ⟨[],L,[],.v (.slice none 0 0),none⟩ ⟨rfl,Keep.refl _ _,fun k h=>h,fun k h=>h,rfl,RowAt.nil _ _ _⟩ (by kernel_rfl)
  (fun h=>good_sub _ [(1,norm (.func (.func 208) #[] #[])),(5,.v (.slice none 0 0)),(8,.v (.slice a n cap)),(9,.v (.int .i64 (n:Int))),(10,.v (.int .i64 (([]:List Ex).length:Int)))] [(gz,none)] (gz+1) rfl (by kernel_rfl) (by kernel_rfl) (by kernel_rfl) (by kernel_rfl) (by kernel_rfl) (fun b hb=>hγ0 b (Nat.le_trans (Nat.le_succ _) hb)) (by kernel_rfl) h) ?_
 rintro ⟨l1,l2,xk,X,ob⟩ B1 w1 ⟨hI,hk1,hB0,hB1,hxk,hrow⟩ ih
 simp only at hI hxk hrow
 have hn2:n=l1.length+l2.length:=by rw [hn,hI,List.length_append]
 have hw1:wgts L=wgts l1+wgts l2:=by rw [hI,wgts_app]
 have hsl1:SlAt B1 w1 a n 5 xs:=(hsl.keep hk1).mono hB0
 have hXlt:avLt (gz+1) X=true:=hrow.lt (by omega)
 refine rk ?_
 cases l2 with
 | nil=>
   have hn3:n=l1.length:=by rw [hn2];simp
   refine gK false (b:=intLt (l1.length:Int) (n:Int)) (lt_f (by omega)) ?_
   have hfin:∀ (γ:Gm) (W:World) (x:Value) (h:Hp) (cc:Nat),VR γ X x→HR B1 Tryz.prog.globals.size γ h cc W→h.get gz=ob→Keep B1 w1 W→(∃ v',Ending.returned x = .returned v'∧EachPr ExAt 5 L w v' W∧Below w.heap.size w W):=by
    intro γ W x h cc hx hH hb hkW
    obtain ⟨hown,_⟩:=row_own (base:=w.heap.size) hrow hb hH hx (fun k hk=>Nat.le_of_not_lt (fun h=>hk (hB0 k h)))
    obtain ⟨a',cap',rfl,_,hsl'⟩:=SlAt_ownS (F:=NewS w W) hown (fun k h1 h2 h3=>⟨⟨h1,h2⟩,h3⟩)
    refine ⟨_,rfl,?_,(hk1.trans (hkW.mono hB0)).below⟩
    have hkl:l1=L:=by rw [hI];simp
    rw [hkl] at hsl' hxk
    refine ⟨a',cap',xk,by rw [hkl],hsl',?_⟩
    exact hxk.imp fun _ _ h=>h.keep (hkW.mono fun k hk=>hk.1) (fun k hk=>⟨⟨hk.2.1,Nat.lt_of_lt_of_le (hB1 k hk.1) hkW.size⟩,hk.2.2.keep hkW hk.1⟩)
   rcases hrow.2 with ⟨hX,hob,h0⟩ | ⟨hX,hob⟩
   ·
    subst hX hob
    refine rk ?_
    exact good_end (av := .v (.slice none 0 0)) (by kernel_rfl) (fun γ W v _ hv hH hkW=>hfin γ W v _ _ hv hH (by kernel_rfl) hkW)
   ·
    subst hX hob
    refine rk ?_
    exact good_end (av := .slg gz 0 l1.length 5) (by kernel_rfl) (fun γ W v _ hv hH hkW=>hfin γ W v _ _ hv hH (by kernel_rfl) hkW)
 | cons s l3=>
   have hin:l1.length<n:=by rw [hn2,List.length_cons];omega
   have hks2:=hks
   rw [hI] at hks2
   obtain ⟨c,hc,hcell⟩:=hks2.at_ (fun _ _ h=>h.len)
   simp only [wgts] at hw1
   have hck:=fun W (hk:Keep B1 w1 W)=>hc.keep (hk1.trans (hk.mono hB0)) (fun k h=>Nat.lt_of_lt_of_le h (hk1.trans (hk.mono hB0)).size)
   obtain ⟨uop,uty,ubits,uen,uek⟩:=s
   simp only [ExAt] at hc
   obtain ⟨uea,uec,uex,rfl,_⟩:=hc
   refine gK true (b:=intLt (l1.length:Int) (n:Int)) (lt_t (by omega)) ?_
   refine rk ?_
   refine gV (.pointer (some ⟨gB a,oB a+l1.length*5,none⟩)) (S:=Instr.indexAt 32 (.slice a n cap) (.int .i64 (l1.length:Int))) (fun W _=>idx_sl (e:=34) hsl1 (by kernel_rfl) (by kernel_rfl) hin W) ?_
   refine rk ?_
   refine gV (.agg #[.int .u8 uop,.int .u8 uty,.int .u64 ubits,.string (str uen),.slice uea uek.length uec]) (S:=Instr.loadAt 34 (.pointer (some ⟨gB a,oB a+l1.length*5+0,none⟩))) (fun W hk=>load_slA (P:=Tryz.prog) (ty:=34) (m:=5) (cs:=[.int .u8 uop,.int .u8 uty,.int .u64 ubits,.string (str uen),.slice uea uek.length uec]) hsl1 (by kernel_rfl) (by kernel_rfl) l1.length 0 rfl hcell hk) ?_
   refine rk ?_
   refine gM [.agg #[.int .u8 uop,.int .u8 uty,.int .u64 ubits,.string (str uen),.slice uea uek.length uec]] (fun W hk=>H (Ex.mk uop uty ubits uen uek) [.int .u8 uop,.int .u8 uty,.int .u64 ubits,.string (str uen),.slice uea uek.length uec] W (by omega) (by omega) (hck W hk)) ?_
   rintro wa r w2 B2 hka ⟨ds,rfl,hds⟩ hba hk12 hB12 hBn2 hB2
   have hds0:=hds
   simp only [ExAt] at hds0
   obtain ⟨ra,rc,rx,rfl,_⟩:=hds0
   refine rs [19] 60 0 ?_
   refine good_app (t:=32) (e:=34) (.slg (gz+2) 0 1 5) 5 64 gz l1.length 0 xk X ob [.int .u8 uop,.int .u8 uty,.int .u64 ubits,.string (str uen),.slice ra uek.length rc] [5,14] (by kernel_rfl) (by kernel_rfl) (by kernel_rfl) (by kernel_rfl) hrow (by kernel_rfl) (by kernel_rfl) (by kernel_rfl)
    (by unfold maxLen;omega) (by omega) (hγ0 gz (Nat.le_refl _)) (by kernel_rfl) (by kernel_rfl) (by kernel_rfl) (by kernel_rfl) (by kernel_rfl) (fun X' ob' hrow'=>?_)
   rcases hrow'.2 with ⟨_,_,h0⟩ | ⟨rfl,rfl⟩
   · omega
   refine rk ?_
   refine gS 10 (x := .int .i64 (wrapF .i64 (((l1.length:Nat):Int)+1))) (.int .i64 ((((l1++[(Ex.mk uop uty ubits uen uek)]).length:Nat):Int))) (by rw [wr64 (n:=((l1.length:Nat):Int)+1) (by omega) (by omega)];congr 1;simp) ?_
   have hsz1:=hk1.size
   have hsza:=hka.size
   have hI2:CInvS ExAt 34 5 w L gz ⟨l1++[(Ex.mk uop uty ubits uen uek)],l3,xk++[.int .u8 uop,.int .u8 uty,.int .u64 ubits,.string (str uen),.slice ra uek.length rc],.slg gz 0 (l1.length+(0+1)) 5,some (.row 34 (xk++[.int .u8 uop,.int .u8 uty,.int .u64 ubits,.string (str uen),.slice ra uek.length rc]))⟩ B2 w2:=by
    refine ⟨by show L=(l1++[_])++l3;rw [hI];simp,hk1.trans (hk12.mono hB0),fun k hk=>hB12 k (hB0 k hk),hB2,?_,?_⟩
    · exact LsAt.snoc (hxk.imp fun _ _ h=>h.keep (hk12.mono fun k hk=>hk.1) (fun k hk=>⟨hB12 k hk.1,hk.2.1,hk.2.2.keep hk12 hk.1⟩)) (hds.keep (Keep.refl _ _) fun k h=>⟨hBn2 k h.1.1 h.1.2,by have:=h.1.1;omega,h.2⟩)
    · show RowAt _ 5 gz (l1++[_]).length _ _ _
      rw [List.length_append]
      exact hrow'
   exact gU _ [(1,norm (.func (.func 208) #[] #[])),(5,.slg gz 0 (l1.length+(0+1)) 5),(8,.v (.slice a n cap)),(9,.v (.int .i64 (n:Int))),(10,.v (.int .i64 ((l1++[(Ex.mk uop uty ubits uen uek)]).length:Int)))] [(gz,some (.row 34 (xk++[.int .u8 uop,.int .u8 uty,.int .u64 ubits,.string (str uen),.slice ra uek.length rc])))] (gz+1) (fun b hb=>hγ0 b (Nat.le_trans (Nat.le_succ _) hb)) (ih _ B2 w2 hI2 (by show l3.length<(_::l3).length;simp))
open Go.Sy in
set_option maxRecDepth 100000 in
theorem eachSt (N:Nat) (H:∀ (s:St) (cs:List Value) (w:World),swt s≤N→swt s≤1000000000000→StAt (·<w.heap.size) w s cs→
   Calls Tryz.prog 142 #[.agg cs.toArray] w fun r w'=>∃ v,r = .returned v∧OnePr StAt s w v w'∧Below w.heap.size w w')
  (L:List St) (a:Option Addr) (n cap:Nat) (xs:List Value) (w:World) (hn:n=L.length) (hN:swts L≤N) (hbd:swts L≤1000000000000) (hsl:SlAt (·<w.heap.size) w a n 9 xs) (hks:LsAt (StAt (·<w.heap.size) w) L xs):
  Calls Tryz.prog 141 #[.slice a n cap,.func (.func 142) #[] #[]] w fun r w'=>∃ v,r = .returned v∧EachPr StAt 9 L w v w'∧Below w.heap.size w w':=by
 have hnl:=swts_len L
 refine Sy.enter (vs:=[.slice a n cap,.func (.func 142) #[] #[]]) sy_fine Tryz.func141 rfl (fun γ=>norms_LR _) rfl (fun γ0 hγ0=>?_)
 refine rk ?_
 refine good_toLp ?_
 refine good_loopB (fun i:CI St=>i.l2.length) (CInvS StAt 56 9 w L gz) (fun i=>⟨mkT [(1,norm (.func (.func 142) #[] #[])),(5,i.X),(8,.v (.slice a n cap)),(9,.v (.int .i64 (n:Int))),(10,.v (.int .i64 (i.l1.length:Int)))],mkH [(gz,i.ob)],gz+1,[]⟩)
  ⟨[],L,[],.v (.slice none 0 0),none⟩ ⟨rfl,Keep.refl _ _,fun k h=>h,fun k h=>h,rfl,RowAt.nil _ _ _⟩ (by kernel_rfl)
  (fun h=>good_sub _ [(1,norm (.func (.func 142) #[] #[])),(5,.v (.slice none 0 0)),(8,.v (.slice a n cap)),(9,.v (.int .i64 (n:Int))),(10,.v (.int .i64 (([]:List St).length:Int)))] [(gz,none)] (gz+1) rfl (by kernel_rfl) (by kernel_rfl) (by kernel_rfl) (by kernel_rfl) (by kernel_rfl) (fun b hb=>hγ0 b (Nat.le_trans (Nat.le_succ _) hb)) (by kernel_rfl) h) ?_
 rintro ⟨l1,l2,xk,X,ob⟩ B1 w1 ⟨hI,hk1,hB0,hB1,hxk,hrow⟩ ih
 simp only at hI hxk hrow
 have hn2:n=l1.length+l2.length:=by rw [hn,hI,List.length_append]
 have hw1:swts L=swts l1+swts l2:=by rw [hI,swts_app]
 have hsl1:SlAt B1 w1 a n 9 xs:=(hsl.keep hk1).mono hB0
 have hXlt:avLt (gz+1) X=true:=hrow.lt (by omega)
 refine rk ?_
 cases l2 with
 | nil=>
   have hn3:n=l1.length:=by rw [hn2];simp
   refine gK false (b:=intLt (l1.length:Int) (n:Int)) (lt_f (by omega)) ?_
   have hfin:∀ (γ:Gm) (W:World) (x:Value) (h:Hp) (cc:Nat),VR γ X x→HR B1 Tryz.prog.globals.size γ h cc W→h.get gz=ob→Keep B1 w1 W→(∃ v',Ending.returned x = .returned v'∧EachPr StAt 9 L w v' W∧Below w.heap.size w W):=by
    intro γ W x h cc hx hH hb hkW
    obtain ⟨hown,_⟩:=row_own (base:=w.heap.size) hrow hb hH hx (fun k hk=>Nat.le_of_not_lt (fun h=>hk (hB0 k h)))
    obtain ⟨a',cap',rfl,_,hsl'⟩:=SlAt_ownS (F:=NewS w W) hown (fun k h1 h2 h3=>⟨⟨h1,h2⟩,h3⟩)
    refine ⟨_,rfl,?_,(hk1.trans (hkW.mono hB0)).below⟩
    have hkl:l1=L:=by rw [hI];simp
    rw [hkl] at hsl' hxk
    refine ⟨a',cap',xk,by rw [hkl],hsl',?_⟩
    exact hxk.imp fun _ _ h=>h.keep (hkW.mono fun k hk=>hk.1) (fun k hk=>⟨⟨hk.2.1,Nat.lt_of_lt_of_le (hB1 k hk.1) hkW.size⟩,hk.2.2.keep hkW hk.1⟩)
   rcases hrow.2 with ⟨hX,hob,h0⟩ | ⟨hX,hob⟩
   ·
    subst hX hob
    refine rk ?_
    exact good_end (av := .v (.slice none 0 0)) (by kernel_rfl) (fun γ W v _ hv hH hkW=>hfin γ W v _ _ hv hH (by kernel_rfl) hkW)
   ·
    subst hX hob
    refine rk ?_
    exact good_end (av := .slg gz 0 l1.length 9) (by kernel_rfl) (fun γ W v _ hv hH hkW=>hfin γ W v _ _ hv hH (by kernel_rfl) hkW)
 | cons s l3=>
   have hin:l1.length<n:=by rw [hn2,List.length_cons];omega
   have hks2:=hks
   rw [hI] at hks2
   obtain ⟨c,hc,hcell⟩:=hks2.at_ (fun _ _ h=>h.len)
   simp only [swts] at hw1
   have hck:=fun W (hk:Keep B1 w1 W)=>hc.keep (hk1.trans (hk.mono hB0)) (fun k h=>Nat.lt_of_lt_of_le h (hk1.trans (hk.mono hB0)).size)
   obtain ⟨ukind,usn,⟨uop,uty,ubits,uen,uek⟩,ubody,uels⟩:=s
   simp only [StAt] at hc
   obtain ⟨ucs,uba,ubc,ubx,ula,ulc,ulx,rfl,uhe,uhbs,uhbt,uhls,uhlt⟩:=hc
   have uhe0:=uhe
   simp only [ExAt] at uhe0
   obtain ⟨uea,uec,uex,rfl,_⟩:=uhe0
   have hcell:∀ j v,([.int .i64 ukind,.string (str usn),.int .u8 uop,.int .u8 uty,.int .u64 ubits,.string (str uen),.slice uea uek.length uec,.slice uba ubody.length ubc,.slice ula uels.length ulc]:List Value)[j]?=some v→xs[l1.length*9+j]?=some v:=hcell
   have umid:∀ j v,([.int .u8 uop,.int .u8 uty,.int .u64 ubits,.string (str uen),.slice uea uek.length uec]:List Value)[j]?=some v→xs[l1.length*9+2+j]?=some v:=cell_part hcell 2 (mid_get [_,_] [.int .u8 uop,.int .u8 uty,.int .u64 ubits,.string (str uen),.slice uea uek.length uec] [_,_])
   refine gK true (b:=intLt (l1.length:Int) (n:Int)) (lt_t (by omega)) ?_
   refine rk ?_
   refine gV (.pointer (some ⟨gB a,oB a+l1.length*9,none⟩)) (S:=Instr.indexAt 54 (.slice a n cap) (.int .i64 (l1.length:Int))) (fun W _=>idx_sl (e:=56) hsl1 (by kernel_rfl) (by kernel_rfl) hin W) ?_
   refine rk ?_
   refine gV (.agg #[.int .i64 ukind,.string (str usn),.int .u8 uop,.int .u8 uty,.int .u64 ubits,.string (str uen),.slice uea uek.length uec,.slice uba ubody.length ubc,.slice ula uels.length ulc]) (S:=Instr.loadAt 56 (.pointer (some ⟨gB a,oB a+l1.length*9+0,none⟩))) (fun W hk=>load_slA (P:=Tryz.prog) (ty:=56) (m:=9) (cs:=[.int .i64 ukind,.string (str usn),.int .u8 uop,.int .u8 uty,.int .u64 ubits,.string (str uen),.slice uea uek.length uec,.slice uba ubody.length ubc,.slice ula uels.length ulc]) hsl1 (by kernel_rfl) (by kernel_rfl) l1.length 0 rfl hcell hk) ?_
   refine rk ?_
   refine gM [.agg #[.int .i64 ukind,.string (str usn),.int .u8 uop,.int .u8 uty,.int .u64 ubits,.string (str uen),.slice uea uek.length uec,.slice uba ubody.length ubc,.slice ula uels.length ulc]] (fun W hk=>H (St.mk ukind usn (Ex.mk uop uty ubits uen uek) ubody uels) [.int .i64 ukind,.string (str usn),.int .u8 uop,.int .u8 uty,.int .u64 ubits,.string (str uen),.slice uea uek.length uec,.slice uba ubody.length ubc,.slice ula uels.length ulc] W (by omega) (by omega) (hck W hk)) ?_
   rintro wa r w2 B2 hka ⟨ds,rfl,hds⟩ hba hk12 hB12 hBn2 hB2
   have hds0:=hds
   simp only [StAt,ExAt] at hds0
   obtain ⟨_,rb,rbc,rbx,rl,rlc,rlx,rfl,⟨ra,rc,rx,rfl,_⟩,_⟩:=hds0
   refine rs [19] 60 0 ?_
   refine good_app (t:=54) (e:=56) (.slg (gz+2) 0 1 9) 9 136 gz l1.length 0 xk X ob [.int .i64 ukind,.string (str usn),.int .u8 uop,.int .u8 uty,.int .u64 ubits,.string (str uen),.slice ra uek.length rc,.slice rb ubody.length rbc,.slice rl uels.length rlc] [5,14] (by kernel_rfl) (by kernel_rfl) (by kernel_rfl) (by kernel_rfl) hrow (by kernel_rfl) (by kernel_rfl) (by kernel_rfl)
    (by unfold maxLen;omega) (by omega) (hγ0 gz (Nat.le_refl _)) (by kernel_rfl) (by kernel_rfl) (by kernel_rfl) (by kernel_rfl) (by kernel_rfl) (fun X' ob' hrow'=>?_)
   rcases hrow'.2 with ⟨_,_,h0⟩ | ⟨rfl,rfl⟩
   · omega
   refine rk ?_
   refine gS 10 (x := .int .i64 (wrapF .i64 (((l1.length:Nat):Int)+1))) (.int .i64 ((((l1++[(St.mk ukind usn (Ex.mk uop uty ubits uen uek) ubody uels)]).length:Nat):Int))) (by rw [wr64 (n:=((l1.length:Nat):Int)+1) (by omega) (by omega)];congr 1;simp) ?_
   have hsz1:=hk1.size
   have hsza:=hka.size
   have hI2:CInvS StAt 56 9 w L gz ⟨l1++[(St.mk ukind usn (Ex.mk uop uty ubits uen uek) ubody uels)],l3,xk++[.int .i64 ukind,.string (str usn),.int .u8 uop,.int .u8 uty,.int .u64 ubits,.string (str uen),.slice ra uek.length rc,.slice rb ubody.length rbc,.slice rl uels.length rlc],.slg gz 0 (l1.length+(0+1)) 9,some (.row 56 (xk++[.int .i64 ukind,.string (str usn),.int .u8 uop,.int .u8 uty,.int .u64 ubits,.string (str uen),.slice ra uek.length rc,.slice rb ubody.length rbc,.slice rl uels.length rlc]))⟩ B2 w2:=by
    refine ⟨by show L=(l1++[_])++l3;rw [hI];simp,hk1.trans (hk12.mono hB0),fun k hk=>hB12 k (hB0 k hk),hB2,?_,?_⟩
    · exact LsAt.snoc (hxk.imp fun _ _ h=>h.keep (hk12.mono fun k hk=>hk.1) (fun k hk=>⟨hB12 k hk.1,hk.2.1,hk.2.2.keep hk12 hk.1⟩)) (hds.keep (Keep.refl _ _) fun k h=>⟨hBn2 k h.1.1 h.1.2,by have:=h.1.1;omega,h.2⟩)
    · show RowAt _ 9 gz (l1++[_]).length _ _ _
      rw [List.length_append]
      exact hrow'
   exact gU _ [(1,norm (.func (.func 142) #[] #[])),(5,.slg gz 0 (l1.length+(0+1)) 9),(8,.v (.slice a n cap)),(9,.v (.int .i64 (n:Int))),(10,.v (.int .i64 ((l1++[(St.mk ukind usn (Ex.mk uop uty ubits uen uek) ubody uels)]).length:Int)))] [(gz,some (.row 56 (xk++[.int .i64 ukind,.string (str usn),.int .u8 uop,.int .u8 uty,.int .u64 ubits,.string (str uen),.slice ra uek.length rc,.slice rb ubody.length rbc,.slice rl uels.length rlc])))] (gz+1) (fun b hb=>hγ0 b (Nat.le_trans (Nat.le_succ _) hb)) (ih _ B2 w2 hI2 (by show l3.length<(_::l3).length;simp))
open Go.Sy in
set_option maxRecDepth 100000 in
theorem eachTh (N:Nat) (H:∀ (s:Th) (cs:List Value) (w:World),thw s≤N→thw s≤1000000000000→ThAt (·<w.heap.size) w s cs→
   Calls Tryz.prog 74 #[.agg cs.toArray] w fun r w'=>∃ v,r = .returned v∧OnePr ThAt s w v w'∧Below w.heap.size w w')
  (L:List Th) (a:Option Addr) (n cap:Nat) (xs:List Value) (w:World) (hn:n=L.length) (hN:thws L≤N) (hbd:thws L≤1000000000000) (hsl:SlAt (·<w.heap.size) w a n 3 xs) (hks:LsAt (ThAt (·<w.heap.size) w) L xs):
  Calls Tryz.prog 73 #[.slice a n cap,.func (.func 74) #[] #[]] w fun r w'=>∃ v,r = .returned v∧EachPr ThAt 3 L w v w'∧Below w.heap.size w w':=by
 have hnl:=thws_len L
 refine Sy.enter (vs:=[.slice a n cap,.func (.func 74) #[] #[]]) sy_fine Tryz.func73 rfl (fun γ=>norms_LR _) rfl (fun γ0 hγ0=>?_)
 refine rk ?_
 refine good_toLp ?_
 refine good_loopB (fun i:CI Th=>i.l2.length) (CInvS ThAt 58 3 w L gz) (fun i=>⟨mkT [(1,norm (.func (.func 74) #[] #[])),(5,i.X),(8,.v (.slice a n cap)),(9,.v (.int .i64 (n:Int))),(10,.v (.int .i64 (i.l1.length:Int)))],mkH [(gz,i.ob)],gz+1,[]⟩)
  ⟨[],L,[],.v (.slice none 0 0),none⟩ ⟨rfl,Keep.refl _ _,fun k h=>h,fun k h=>h,rfl,RowAt.nil _ _ _⟩ (by kernel_rfl)
  (fun h=>good_sub _ [(1,norm (.func (.func 74) #[] #[])),(5,.v (.slice none 0 0)),(8,.v (.slice a n cap)),(9,.v (.int .i64 (n:Int))),(10,.v (.int .i64 (([]:List Th).length:Int)))] [(gz,none)] (gz+1) rfl (by kernel_rfl) (by kernel_rfl) (by kernel_rfl) (by kernel_rfl) (by kernel_rfl) (fun b hb=>hγ0 b (Nat.le_trans (Nat.le_succ _) hb)) (by kernel_rfl) h) ?_
 rintro ⟨l1,l2,xk,X,ob⟩ B1 w1 ⟨hI,hk1,hB0,hB1,hxk,hrow⟩ ih
 simp only at hI hxk hrow
 have hn2:n=l1.length+l2.length:=by rw [hn,hI,List.length_append]
 have hw1:thws L=thws l1+thws l2:=by rw [hI,thws_app]
 have hsl1:SlAt B1 w1 a n 3 xs:=(hsl.keep hk1).mono hB0
 have hXlt:avLt (gz+1) X=true:=hrow.lt (by omega)
 refine rk ?_
 cases l2 with
 | nil=>
   have hn3:n=l1.length:=by rw [hn2];simp
   refine gK false (b:=intLt (l1.length:Int) (n:Int)) (lt_f (by omega)) ?_
   have hfin:∀ (γ:Gm) (W:World) (x:Value) (h:Hp) (cc:Nat),VR γ X x→HR B1 Tryz.prog.globals.size γ h cc W→h.get gz=ob→Keep B1 w1 W→(∃ v',Ending.returned x = .returned v'∧EachPr ThAt 3 L w v' W∧Below w.heap.size w W):=by
    intro γ W x h cc hx hH hb hkW
    obtain ⟨hown,_⟩:=row_own (base:=w.heap.size) hrow hb hH hx (fun k hk=>Nat.le_of_not_lt (fun h=>hk (hB0 k h)))
    obtain ⟨a',cap',rfl,_,hsl'⟩:=SlAt_ownS (F:=NewS w W) hown (fun k h1 h2 h3=>⟨⟨h1,h2⟩,h3⟩)
    refine ⟨_,rfl,?_,(hk1.trans (hkW.mono hB0)).below⟩
    have hkl:l1=L:=by rw [hI];simp
    rw [hkl] at hsl' hxk
    refine ⟨a',cap',xk,by rw [hkl],hsl',?_⟩
    exact hxk.imp fun _ _ h=>h.keep (hkW.mono fun k hk=>hk.1) (fun k hk=>⟨⟨hk.2.1,Nat.lt_of_lt_of_le (hB1 k hk.1) hkW.size⟩,hk.2.2.keep hkW hk.1⟩)
   rcases hrow.2 with ⟨hX,hob,h0⟩ | ⟨hX,hob⟩
   ·
    subst hX hob
    refine rk ?_
    exact good_end (av := .v (.slice none 0 0)) (by kernel_rfl) (fun γ W v _ hv hH hkW=>hfin γ W v _ _ hv hH (by kernel_rfl) hkW)
   ·
    subst hX hob
    refine rk ?_
    exact good_end (av := .slg gz 0 l1.length 3) (by kernel_rfl) (fun γ W v _ hv hH hkW=>hfin γ W v _ _ hv hH (by kernel_rfl) hkW)
 | cons s l3=>
   have hin:l1.length<n:=by rw [hn2,List.length_cons];omega
   have hks2:=hks
   rw [hI] at hks2
   obtain ⟨c,hc,hcell⟩:=hks2.at_ (fun _ _ h=>h.len)
   simp only [thws] at hw1
   have hck:=fun W (hk:Keep B1 w1 W)=>hc.keep (hk1.trans (hk.mono hB0)) (fun k h=>Nat.lt_of_lt_of_le h (hk1.trans (hk.mono hB0)).size)
   obtain ⟨sa,scap,sxs,sb,scap2,sys,rfl,shs,sht,shb,shbt⟩:=hc
   refine gK true (b:=intLt (l1.length:Int) (n:Int)) (lt_t (by omega)) ?_
   refine rk ?_
   refine gV (.pointer (some ⟨gB a,oB a+l1.length*3,none⟩)) (S:=Instr.indexAt 24 (.slice a n cap) (.int .i64 (l1.length:Int))) (fun W _=>idx_sl (e:=58) hsl1 (by kernel_rfl) (by kernel_rfl) hin W) ?_
   refine rk ?_
   refine gV (.agg #[.string (str s.name),.slice sa s.locals.length scap,.slice sb s.body.length scap2]) (S:=Instr.loadAt 58 (.pointer (some ⟨gB a,oB a+l1.length*3+0,none⟩))) (fun W hk=>load_slA (P:=Tryz.prog) (ty:=58) (m:=3) (cs:=[.string (str s.name),.slice sa s.locals.length scap,.slice sb s.body.length scap2]) hsl1 (by kernel_rfl) (by kernel_rfl) l1.length 0 rfl hcell hk) ?_
   refine rk ?_
   refine gM [.agg #[.string (str s.name),.slice sa s.locals.length scap,.slice sb s.body.length scap2]] (fun W hk=>H s [.string (str s.name),.slice sa s.locals.length scap,.slice sb s.body.length scap2] W (by omega) (by omega) (hck W hk)) ?_
   rintro wa r w2 B2 hka ⟨ds,rfl,hds⟩ hba hk12 hB12 hBn2 hB2
   have hds0:=hds
   obtain ⟨ra,rc,rx,rb,rbc,rbx,rfl,_⟩:=hds0
   refine rs [19] 60 0 ?_
   refine good_app (t:=24) (e:=58) (.slg (gz+2) 0 1 3) 3 64 gz l1.length 0 xk X ob [.string (str s.name),.slice ra s.locals.length rc,.slice rb s.body.length rbc] [5,14] (by kernel_rfl) (by kernel_rfl) (by kernel_rfl) (by kernel_rfl) hrow (by kernel_rfl) (by kernel_rfl) (by kernel_rfl)
    (by unfold maxLen;omega) (by omega) (hγ0 gz (Nat.le_refl _)) (by kernel_rfl) (by kernel_rfl) (by kernel_rfl) (by kernel_rfl) (by kernel_rfl) (fun X' ob' hrow'=>?_)
   rcases hrow'.2 with ⟨_,_,h0⟩ | ⟨rfl,rfl⟩
   · omega
   refine rk ?_
   refine gS 10 (x := .int .i64 (wrapF .i64 (((l1.length:Nat):Int)+1))) (.int .i64 ((((l1++[s]).length:Nat):Int))) (by rw [wr64 (n:=((l1.length:Nat):Int)+1) (by omega) (by omega)];congr 1;simp) ?_
   have hsz1:=hk1.size
   have hsza:=hka.size
   have hI2:CInvS ThAt 58 3 w L gz ⟨l1++[s],l3,xk++[.string (str s.name),.slice ra s.locals.length rc,.slice rb s.body.length rbc],.slg gz 0 (l1.length+(0+1)) 3,some (.row 58 (xk++[.string (str s.name),.slice ra s.locals.length rc,.slice rb s.body.length rbc]))⟩ B2 w2:=by
    refine ⟨by show L=(l1++[_])++l3;rw [hI];simp,hk1.trans (hk12.mono hB0),fun k hk=>hB12 k (hB0 k hk),hB2,?_,?_⟩
    · exact LsAt.snoc (hxk.imp fun _ _ h=>h.keep (hk12.mono fun k hk=>hk.1) (fun k hk=>⟨hB12 k hk.1,hk.2.1,hk.2.2.keep hk12 hk.1⟩)) (hds.keep (Keep.refl _ _) fun k h=>⟨hBn2 k h.1.1 h.1.2,by have:=h.1.1;omega,h.2⟩)
    · show RowAt _ 3 gz (l1++[_]).length _ _ _
      rw [List.length_append]
      exact hrow'
   exact gU _ [(1,norm (.func (.func 74) #[] #[])),(5,.slg gz 0 (l1.length+(0+1)) 3),(8,.v (.slice a n cap)),(9,.v (.int .i64 (n:Int))),(10,.v (.int .i64 ((l1++[s]).length:Int)))] [(gz,some (.row 58 (xk++[.string (str s.name),.slice ra s.locals.length rc,.slice rb s.body.length rbc])))] (gz+1) (fun b hb=>hγ0 b (Nat.le_trans (Nat.le_succ _) hb)) (ih _ B2 w2 hI2 (by show l3.length<(_::l3).length;simp))
end Go.Proofs.YtiacalnkmnckjaaGreatDoor
end
section
namespace Go.Proofs.YtiacalnkmnckjaaGreatDoor
open Go.RowKit Go.As
open Go.Sy in
theorem app_noneS {P:Program} {z:Value} {t e:TypeId} {sz bytes:Nat} (hz1:(P.info? e).bind (fun i=>i.zero)=some z) (hu:Sy.elemOf P t=some e) (hi:infoOf P e=some (sz,bytes)) (hsz:Nat.blt 0 sz=true) {F:Nat→Prop} {w1:World} {k:Nat} {a:Option Addr} {n c:Nat} {xs:List Value} (h:SlAt F w1 a n sz xs) (hb:n*bytes≤140737488355328) (h63:n≤maxLen):
  ∀ w,Keep F w1 w→∀ ty,∃ r w',(Builtin.append_ [t,t].toArray ty #[.slice (some ⟨k,0,none⟩) 0 0,.slice a n c]).run P w = .ok r w'∧(∃ a' cap' zs,r = .slice a' n cap'∧SlAt (NewS w w') w' a' n sz xs∧SlAt (NewS w w') w' a' cap' sz (xs++zs)∧(∀ u∈zs,u∈z.cells.toList)∧cap'≤maxLen)∧Below w.heap.size w w':=by
 intro w hk ty
 have hsz:=blt_lt hsz
 unfold Sy.elemOf at hu
 split at hu <;> first | (cases hu;done) | skip
 rename_i e' hu'
 injection hu with hu
 subst hu
 unfold infoOf at hi
 split at hi <;> first | (cases hi;done) | skip
 rename_i i hi'
 split at hi <;> first | (cases hi;done) | skip
 rename_i z' hz
 obtain rfl:z'=z:=by rw [hi'] at hz1;simp only [Option.bind_some] at hz1;rw [hz] at hz1;injection hz1
 split at hi <;> first | (cases hi;done) | skip
 rename_i hzs
 injection hi with hi
 injection hi with e1 e2
 subst e1 e2
 have hw:=h.keep hk
 cases n with
 | zero=>
   refine ⟨.slice (some ⟨k,0,none⟩) 0 0,w,?_,⟨_,_,[],rfl,⟨h.len,.inl rfl⟩,⟨by have:=h.len;simpa using this,.inl rfl⟩,(fun u h=>by cases h),by simp [maxLen]⟩,Below.refl _ _⟩
   cases a <;> simp [Builtin.append_,run_underlying hu',sizeOf,typeInfo,hi',Builtin.lenOf,Builtin.firstCells,storeCells,loadCells,loadCellsFrom]
 | succ m=>
   rcases hw.place with h0 | ⟨ha,hF,hcell⟩
   · omega
   rw [ha]
   have hr:=run_append_grow (P:=P) w t ty _ i _ hu' hi' hz ⟨k,0,none⟩ 0 0 [] (by simp) (by simp) ⟨gB a,oB a,none⟩ (m+1) c xs hw.len (fun j v hv=>by have:=hcell j v hv;simpa [Addr.add_mid] using this) (by omega) (by simp only [maxLen] at h63;omega) (growslice_fits (by omega) (by rw [Nat.zero_add];exact hb))
   rw [Nat.zero_add] at hr
   have hge:=grownCap_ge w (m+1) 0 e'
   have hcm:=grownCap_le_maxLen w (m+1) 0 e' h63
   generalize hcap:grownCap w (m+1) 0 e'=cp at hr hge hcm
   obtain ⟨X,hX⟩:∃ X:Array Value,X=#[]++xs.toArray++Builtin.zeroCells z'.cells (cp - (m+1)):=⟨_,rfl⟩
   rw [← hX] at hr
   have hh:(w.drew.alloc (.cells X e')).heap[w.heap.size]?=some (.cells X e'):=heap_alloc_new w.drew _
   have hXl:X.toList=xs++(Builtin.zeroCells z'.cells (cp - (m+1))).toList:=by rw [hX];simp
   have hnew:NewS w (w.drew.alloc (.cells X e')) w.heap.size:=⟨⟨Nat.le_refl _,by simp⟩,⟨_,_,hh⟩⟩
   have hcell2:∀ j v,X.toList[j]?=some v→(w.drew.alloc (.cells X e')).cell? ⟨w.heap.size,0+j,none⟩=some v:=fun j v hv=>by
    simp only [World.cell?]
    rw [hh]
    simp only [Nat.zero_add]
    simpa using hv
   refine ⟨_,_,hr,⟨_,_,(Builtin.zeroCells z'.cells (cp - (m+1))).toList,rfl,⟨hw.len,.inr ⟨rfl,hnew,fun j v hv=>?_⟩⟩,⟨?_,.inr ⟨rfl,hnew,fun j v hv=>?_⟩⟩,fun u hu=>?_,hcm⟩,((Below.refl _ _).drew).alloc (by simp) _⟩
   · have hj:=(List.getElem?_eq_some_iff.1 hv).1
     exact hcell2 j v (by rw [hXl,List.getElem?_append_left hj];exact hv)
   · rw [List.length_append,hw.len,Array.length_toList,size_zeroCells,Nat.eq_of_beq_eq_true hzs,← Nat.add_mul]
     congr 1
     omega
   · exact hcell2 j v (by rw [hXl];exact hv)
   · simp only [Builtin.zeroCells] at hu
     rw [Array.toList_map,List.mem_map] at hu
     obtain ⟨j,_,rfl⟩:=hu
     have hpos:0<z'.cells.size:=by rw [Nat.eq_of_beq_eq_true hzs];exact hsz
     have hlt:=Nat.mod_lt j hpos
     rw [getElem!_pos z'.cells _ hlt]
     simp
open Go.Sy in
set_option maxRecDepth 100000 in
theorem cloneTexts (a:Option Addr) (n cap:Nat) (xs:List Value) (w:World) (hbd:n≤1000000000000) (hsl:SlAt (·<w.heap.size) w a n 1 xs):
  Calls Tryz.prog 72 #[.slice a n cap] w fun r w'=>∃ v,r = .returned v∧(∃ a' cap' zs,v = .slice a' n cap'∧SlAt (NewS w w') w' a' n 1 xs∧SlAt (NewS w w') w' a' cap' 1 (xs++zs)∧(∀ u∈zs,u∈([.string ⟨#[]⟩]:List Value))∧cap'≤maxLen)∧Below w.heap.size w w':=by
 cases a with
 | none=>
   obtain rfl:n=0:=by
    rcases hsl.place with h | ⟨h,_⟩
    · exact h
    · cases h
   refine Sy.enter (vs:=[.slice none 0 cap]) sy_fine Tryz.func72 rfl (fun γ=>norms_LR _) rfl (fun γ0 hγ0=>?_)
   refine rs [] 60 3 ?_
   refine gR (.slice none 0 0) (fun W hk=>⟨_,rfl,⟨none,0,[],rfl,⟨hsl.len,.inl rfl⟩,⟨by have:=hsl.len;simpa using this,.inl rfl⟩,(fun u h=>by cases h),by simp [maxLen]⟩,hk.below⟩)
 | some ad=>
   refine Sy.enter (vs:=[.slice (some ad) n cap]) sy_fine Tryz.func72 rfl (fun γ=>norms_LR _) rfl (fun γ0 hγ0=>?_)
   refine rs [7] 60 3 ?_
   refine good_fix 5 gz 1 (by kernel_rfl) (by kernel_rfl) (by kernel_rfl) (fun k=>?_)
   refine good_appM (.slice (some ⟨k,0,none⟩) 0 0) (.slice (some ad) n cap) [23,23] (by kernel_rfl) (fun W hk=>app_noneS (z := .string ⟨#[]⟩) (e:=9) (sz:=1) (bytes:=16) (by kernel_rfl) (by kernel_rfl) (by kernel_rfl) (by kernel_rfl) hsl (by omega) (by unfold maxLen;omega) W hk) ?_
   rintro w1 r w2 B2 hk1 ⟨a2,cap2,zs,rfl,hsl2,hsl3,hzs⟩ hbl hk2 hB02 hBn hB2
   refine rk ?_
   refine gR (.slice a2 n cap2) (fun W hk=>have hkN:Keep (NewS w1 w2) w2 W:=hk.mono fun k h=>hBn k h.1.1 h.1.2
    have hlt:∀ k,NewS w1 w2 k→NewS w W k:=fun k h=>h.up hkN h hk1.size hk.size
    ⟨_,rfl,⟨a2,cap2,zs,rfl,(hsl2.keep hkN).mono hlt,(hsl3.keep hkN).mono hlt,hzs⟩,(hk2.trans (hk.mono hB02)).below⟩)
open Go.Sy in
set_option maxRecDepth 100000 in
theorem cloneVars (a:Option Addr) (n cap:Nat) (xs:List Value) (w:World) (hbd:n≤1000000000000) (hsl:SlAt (·<w.heap.size) w a n 3 xs):
  Calls Tryz.prog 71 #[.slice a n cap] w fun r w'=>∃ v,r = .returned v∧(∃ a' cap' zs,v = .slice a' n cap'∧SlAt (NewS w w') w' a' n 3 xs∧SlAt (NewS w w') w' a' cap' 3 (xs++zs)∧(∀ u∈zs,u∈([.string ⟨#[]⟩,.int .u8 0,.int .u64 0]:List Value))∧cap'≤maxLen)∧Below w.heap.size w w':=by
 cases a with
 | none=>
   obtain rfl:n=0:=by
    rcases hsl.place with h | ⟨h,_⟩
    · exact h
    · cases h
   refine Sy.enter (vs:=[.slice none 0 cap]) sy_fine Tryz.func71 rfl (fun γ=>norms_LR _) rfl (fun γ0 hγ0=>?_)
   refine rs [] 60 3 ?_
   refine gR (.slice none 0 0) (fun W hk=>⟨_,rfl,⟨none,0,[],rfl,⟨hsl.len,.inl rfl⟩,⟨by have:=hsl.len;simpa using this,.inl rfl⟩,(fun u h=>by cases h),by simp [maxLen]⟩,hk.below⟩)
 | some ad=>
   refine Sy.enter (vs:=[.slice (some ad) n cap]) sy_fine Tryz.func71 rfl (fun γ=>norms_LR _) rfl (fun γ0 hγ0=>?_)
   refine rs [7] 60 3 ?_
   refine good_fix 5 gz 3 (by kernel_rfl) (by kernel_rfl) (by kernel_rfl) (fun k=>?_)
   refine good_appM (.slice (some ⟨k,0,none⟩) 0 0) (.slice (some ad) n cap) [22,22] (by kernel_rfl) (fun W hk=>app_noneS (z := .agg #[.string ⟨#[]⟩,.int .u8 0,.int .u64 0]) (e:=67) (sz:=3) (bytes:=32) (by kernel_rfl) (by kernel_rfl) (by kernel_rfl) (by kernel_rfl) hsl (by omega) (by unfold maxLen;omega) W hk) ?_
   rintro w1 r w2 B2 hk1 ⟨a2,cap2,zs,rfl,hsl2,hsl3,hzs⟩ hbl hk2 hB02 hBn hB2
   refine rk ?_
   refine gR (.slice a2 n cap2) (fun W hk=>have hkN:Keep (NewS w1 w2) w2 W:=hk.mono fun k h=>hBn k h.1.1 h.1.2
    have hlt:∀ k,NewS w1 w2 k→NewS w W k:=fun k h=>h.up hkN h hk1.size hk.size
    ⟨_,rfl,⟨a2,cap2,zs,rfl,(hsl2.keep hkN).mono hlt,(hsl3.keep hkN).mono hlt,hzs⟩,(hk2.trans (hk.mono hB02)).below⟩)
open Go.Sy in
set_option maxRecDepth 100000 in
theorem tcopyExpr_any:∀ (N:Nat) (e:Ex) (cs:List Value) (w:World),wgt e≤N→wgt e≤1000000000000→ExAt (·<w.heap.size) w e cs→
  Calls Tryz.prog 208 #[.agg cs.toArray] w fun r w'=>∃ v,r = .returned v∧OnePr ExAt e w v w'∧Below w.heap.size w w':=by
 intro N
 induction N with
 | zero=>intro e cs w h;have:=wgt_pos e;omega
 | succ N ihN=>
   intro e cs w hN hbd hat
   obtain ⟨uop,uty,ubits,uen,uek⟩:=e
   simp only [ExAt] at hat
   obtain ⟨uea,uec,uxs,rfl,uhs,uht⟩:=hat
   simp only [wgt] at hN hbd
   refine Sy.enter (vs:=[.agg #[.int .u8 uop,.int .u8 uty,.int .u64 ubits,.string (str uen),.slice uea uek.length uec]]) sy_fine Tryz.func208 rfl (fun γ=>norms_LR _) rfl (fun γ0 hγ0=>?_)
   refine rk ?_
   refine gM [.slice uea uek.length uec,.func (.func 208) #[] #[]] (fun W hk=>eachEx N ihN uek _ _ _ _ W rfl (by omega) (by omega) ((uhs.keep hk).mono (fun k h=>Nat.lt_of_lt_of_le h hk.size)) (ExsAt_ls.1 (uht.keep hk (fun k h=>Nat.lt_of_lt_of_le h hk.size)))) ?_
   rintro wa r w2 B2 hka ⟨ra,rc,rx,rfl,hrs,hrt⟩ hba hk02 hB02 hBn2 hB2
   refine rk ?_
   refine gR (.agg #[.int .u8 uop,.int .u8 uty,.int .u64 ubits,.string (str uen),.slice ra uek.length rc]) (fun W hk=>⟨_,rfl,⟨[.int .u8 uop,.int .u8 uty,.int .u64 ubits,.string (str uen),.slice ra uek.length rc],rfl,?_⟩,(hk02.trans (hk.mono hB02)).below⟩)
   have hkN:Keep (NewS wa w2) w2 W:=hk.mono fun k h=>hBn2 k h.1.1 h.1.2
   have hlt:∀ k,NewS wa w2 k→NewS w W k:=fun k h=>h.up hkN h hka.size hk.size
   simp only [ExAt]
   exact ⟨ra,rc,rx,rfl,(hrs.keep hkN).mono hlt,ExsAt_ls.2 (hrt.imp fun _ _ h=>h.keep hkN hlt)⟩
open Go.Sy in
set_option maxRecDepth 100000 in
theorem tcopyStmt_any:∀ (N:Nat) (e:St) (cs:List Value) (w:World),swt e≤N→swt e≤1000000000000→StAt (·<w.heap.size) w e cs→
  Calls Tryz.prog 142 #[.agg cs.toArray] w fun r w'=>∃ v,r = .returned v∧OnePr StAt e w v w'∧Below w.heap.size w w':=by
 intro N
 induction N with
 | zero=>intro e cs w h;have:=swt_pos e;omega
 | succ N ihN=>
   intro e cs w hN hbd hat
   obtain ⟨ukind,usn,⟨uop,uty,ubits,uen,uek⟩,ubody,uels⟩:=e
   simp only [StAt] at hat
   obtain ⟨ucs,uba,ubc,ubx,ula,ulc,ulx,rfl,uhe,uhbs,uhbt,uhls,uhlt⟩:=hat
   have uhe0:=uhe
   simp only [ExAt] at uhe0
   obtain ⟨uea,uec,uex,rfl,_⟩:=uhe0
   simp only [swt] at hN hbd
   refine Sy.enter (vs:=[.agg #[.int .i64 ukind,.string (str usn),.int .u8 uop,.int .u8 uty,.int .u64 ubits,.string (str uen),.slice uea uek.length uec,.slice uba ubody.length ubc,.slice ula uels.length ulc]]) sy_fine Tryz.func142 rfl (fun γ=>norms_LR _) rfl (fun γ0 hγ0=>?_)
   refine rk ?_
   refine gM [.agg #[.int .u8 uop,.int .u8 uty,.int .u64 ubits,.string (str uen),.slice uea uek.length uec]] (fun W hk=>tcopyExpr_any _ (Ex.mk uop uty ubits uen uek) [.int .u8 uop,.int .u8 uty,.int .u64 ubits,.string (str uen),.slice uea uek.length uec] W (Nat.le_refl _) (by omega) (uhe.keep hk (fun k h=>Nat.lt_of_lt_of_le h hk.size))) ?_
   rintro wa r w1 B1 hka ⟨ds,rfl,hds⟩ hba hk01 hB01 hBn1 hB1
   have hds0:=hds
   simp only [ExAt] at hds0
   obtain ⟨ra,rc,rx,rfl,_⟩:=hds0
   refine rs [] 4 0 ?_
   refine good_plan sy_mixed (.take 0 (.take 3 (.alt (.run 1 (.alt (.run 2 (.run 4 (.take 6 (.run 5 (.run 7 (.take 8 .done)))))) (.run 4 (.run 2 (.take 6 (.run 5 (.run 7 (.take 8 .done)))))))) (.run 4 (.run 1 (.run 2 (.take 6 (.run 5 (.run 7 (.take 8 .done)))))))))) 9 (by kernel_rfl) ?_
   refine p_takes [] 2 (Bs:=B1) (ws:=w1) (by kernel_rfl) (fun _ h=>h) (fun b hb=>by cases hb) ?_
   refine p_alt (by kernel_rfl) ?_ ?_
   ·
    refine pR (Keep B1 w1) (fun _ h=>h) ?_
    refine rk ?_
    refine p_alt (by kernel_rfl) ?_ ?_
    ·
     refine pR (Keep B1 w1) (fun _ h=>h) ?_
     refine gM [.slice uba ubody.length ubc,.func (.func 142) #[] #[]] (fun W hk=>by have hk:=hk01.trans (hk.mono hB01);exact eachSt N ihN ubody _ _ _ _ W rfl (by omega) (by omega) ((uhbs.keep hk).mono (fun k h=>Nat.lt_of_lt_of_le h hk.size)) (StsAt_ls.1 (uhbt.keep hk (fun k h=>Nat.lt_of_lt_of_le h hk.size)))) ?_
     rintro wb r w2 B2 hkb ⟨rb,rbc,rbx,rfl,hbs,hbt⟩ hbb hk12 hB12 hBn2 hB2
     have hS2:∀ W,Keep B2 w2 W→Keep B1 w1 W:=fun W hk=>hk12.trans (hk.mono hB12)
     have hk02:Keep (·<w.heap.size) w w2:=hk01.trans (hk12.mono hB01)
     refine rk ?_
     refine pR (Keep B1 w1) hS2 ?_
     refine rk ?_
     refine p_takes [] 1 (Bs:=B1) (ws:=w1) (by kernel_rfl) hS2 (fun b hb=>by cases hb) ?_
     refine pR (Keep B1 w1) hS2 ?_
     refine gM [.slice ula uels.length ulc,.func (.func 142) #[] #[]] (fun W hk=>by have hk:=hk02.trans (hk.mono fun k h=>hB12 k (hB01 k h));exact eachSt N ihN uels _ _ _ _ W rfl (by omega) (by omega) ((uhls.keep hk).mono (fun k h=>Nat.lt_of_lt_of_le h hk.size)) (StsAt_ls.1 (uhlt.keep hk (fun k h=>Nat.lt_of_lt_of_le h hk.size)))) ?_
     rintro wc r w3 B3 hkc ⟨rl,rlc,rlx,rfl,hls,hlt⟩ hbc hk23 hB23 hBn3 hB3
     have hS3:∀ W,Keep B3 w3 W→Keep B1 w1 W:=fun W hk=>hS2 W (hk23.trans (hk.mono hB23))
     have hk03:Keep (·<w.heap.size) w w3:=hk02.trans (hk23.mono fun k h=>hB12 k (hB01 k h))
     refine rk ?_
     refine pR (Keep B1 w1) hS3 ?_
     refine rk ?_
     refine p_takes [] 1 (Bs:=B1) (ws:=w1) (by kernel_rfl) hS3 (fun b hb=>by cases hb) ?_
     refine p_done (by kernel_rfl) ?_ (Keep B1 w1) (by kernel_rfl) hS3
     refine rk ?_
     refine gR (.agg #[.int .i64 ukind,.string (str usn),.int .u8 uop,.int .u8 uty,.int .u64 ubits,.string (str uen),.slice ra uek.length rc,.slice rb ubody.length rbc,.slice rl uels.length rlc]) (fun W hk=>⟨_,rfl,⟨[.int .i64 ukind,.string (str usn),.int .u8 uop,.int .u8 uty,.int .u64 ubits,.string (str uen),.slice ra uek.length rc,.slice rb ubody.length rbc,.slice rl uels.length rlc],rfl,?_⟩,(hk03.trans (hk.mono fun k h=>hB23 k (hB12 k (hB01 k h)))).below⟩)
     have z1:=hka.size
     have z2:=hkb.size
     have z3:=hkc.size
     have z4:=hk01.size
     have z5:=hk12.size
     have z6:=hk23.size
     have z7:=hk.size
     have k3:Keep (NewS wc w3) w3 W:=hk.mono fun k h=>hBn3 k h.1.1 h.1.2
     have k2:Keep (NewS wb w2) w2 W:=(hk23.trans (hk.mono hB23)).mono fun k h=>hBn2 k h.1.1 h.1.2
     have k1:Keep (NewS wa w1) w1 W:=((hk12.trans ((hk23.trans (hk.mono hB23)).mono hB12))).mono fun k h=>hBn1 k h.1.1 h.1.2
     have n1:∀ k,NewS wa w1 k→NewS w W k:=fun k h=>h.up k1 h (by omega) (by omega)
     have n2:∀ k,NewS wb w2 k→NewS w W k:=fun k h=>h.up k2 h (by omega) (by omega)
     have n3:∀ k,NewS wc w3 k→NewS w W k:=fun k h=>h.up k3 h (by omega) (by omega)
     simp only [StAt]
     exact ⟨_,rb,rbc,rbx,rl,rlc,rlx,rfl,hds.keep k1 n1,(hbs.keep k2).mono n2,StsAt_ls.2 (hbt.imp fun _ _ h=>h.keep k2 n2),(hls.keep k3).mono n3,StsAt_ls.2 (hlt.imp fun _ _ h=>h.keep k3 n3)⟩
    ·
     refine pR (Keep B1 w1) (fun _ h=>h) ?_
     refine rk ?_
     refine pR (Keep B1 w1) (fun _ h=>h) ?_
     refine gM [.slice uba ubody.length ubc,.func (.func 142) #[] #[]] (fun W hk=>by have hk:=hk01.trans (hk.mono hB01);exact eachSt N ihN ubody _ _ _ _ W rfl (by omega) (by omega) ((uhbs.keep hk).mono (fun k h=>Nat.lt_of_lt_of_le h hk.size)) (StsAt_ls.1 (uhbt.keep hk (fun k h=>Nat.lt_of_lt_of_le h hk.size)))) ?_
     rintro wb r w2 B2 hkb ⟨rb,rbc,rbx,rfl,hbs,hbt⟩ hbb hk12 hB12 hBn2 hB2
     have hS2:∀ W,Keep B2 w2 W→Keep B1 w1 W:=fun W hk=>hk12.trans (hk.mono hB12)
     have hk02:Keep (·<w.heap.size) w w2:=hk01.trans (hk12.mono hB01)
     refine rk ?_
     refine p_takes [] 1 (Bs:=B1) (ws:=w1) (by kernel_rfl) hS2 (fun b hb=>by cases hb) ?_
     refine pR (Keep B1 w1) hS2 ?_
     refine gM [.slice ula uels.length ulc,.func (.func 142) #[] #[]] (fun W hk=>by have hk:=hk02.trans (hk.mono fun k h=>hB12 k (hB01 k h));exact eachSt N ihN uels _ _ _ _ W rfl (by omega) (by omega) ((uhls.keep hk).mono (fun k h=>Nat.lt_of_lt_of_le h hk.size)) (StsAt_ls.1 (uhlt.keep hk (fun k h=>Nat.lt_of_lt_of_le h hk.size)))) ?_
     rintro wc r w3 B3 hkc ⟨rl,rlc,rlx,rfl,hls,hlt⟩ hbc hk23 hB23 hBn3 hB3
     have hS3:∀ W,Keep B3 w3 W→Keep B1 w1 W:=fun W hk=>hS2 W (hk23.trans (hk.mono hB23))
     have hk03:Keep (·<w.heap.size) w w3:=hk02.trans (hk23.mono fun k h=>hB12 k (hB01 k h))
     refine rk ?_
     refine pR (Keep B1 w1) hS3 ?_
     refine rk ?_
     refine p_takes [] 1 (Bs:=B1) (ws:=w1) (by kernel_rfl) hS3 (fun b hb=>by cases hb) ?_
     refine p_done (by kernel_rfl) ?_ (Keep B1 w1) (by kernel_rfl) hS3
     refine rk ?_
     refine gR (.agg #[.int .i64 ukind,.string (str usn),.int .u8 uop,.int .u8 uty,.int .u64 ubits,.string (str uen),.slice ra uek.length rc,.slice rb ubody.length rbc,.slice rl uels.length rlc]) (fun W hk=>⟨_,rfl,⟨[.int .i64 ukind,.string (str usn),.int .u8 uop,.int .u8 uty,.int .u64 ubits,.string (str uen),.slice ra uek.length rc,.slice rb ubody.length rbc,.slice rl uels.length rlc],rfl,?_⟩,(hk03.trans (hk.mono fun k h=>hB23 k (hB12 k (hB01 k h)))).below⟩)
     have z1:=hka.size
     have z2:=hkb.size
     have z3:=hkc.size
     have z4:=hk01.size
     have z5:=hk12.size
     have z6:=hk23.size
     have z7:=hk.size
     have k3:Keep (NewS wc w3) w3 W:=hk.mono fun k h=>hBn3 k h.1.1 h.1.2
     have k2:Keep (NewS wb w2) w2 W:=(hk23.trans (hk.mono hB23)).mono fun k h=>hBn2 k h.1.1 h.1.2
     have k1:Keep (NewS wa w1) w1 W:=((hk12.trans ((hk23.trans (hk.mono hB23)).mono hB12))).mono fun k h=>hBn1 k h.1.1 h.1.2
     have n1:∀ k,NewS wa w1 k→NewS w W k:=fun k h=>h.up k1 h (by omega) (by omega)
     have n2:∀ k,NewS wb w2 k→NewS w W k:=fun k h=>h.up k2 h (by omega) (by omega)
     have n3:∀ k,NewS wc w3 k→NewS w W k:=fun k h=>h.up k3 h (by omega) (by omega)
     simp only [StAt]
     exact ⟨_,rb,rbc,rbx,rl,rlc,rlx,rfl,hds.keep k1 n1,(hbs.keep k2).mono n2,StsAt_ls.2 (hbt.imp fun _ _ h=>h.keep k2 n2),(hls.keep k3).mono n3,StsAt_ls.2 (hlt.imp fun _ _ h=>h.keep k3 n3)⟩
   ·
    refine pR (Keep B1 w1) (fun _ h=>h) ?_
    refine rk ?_
    refine pR (Keep B1 w1) (fun _ h=>h) ?_
    refine rk ?_
    refine pR (Keep B1 w1) (fun _ h=>h) ?_
    refine gM [.slice uba ubody.length ubc,.func (.func 142) #[] #[]] (fun W hk=>by have hk:=hk01.trans (hk.mono hB01);exact eachSt N ihN ubody _ _ _ _ W rfl (by omega) (by omega) ((uhbs.keep hk).mono (fun k h=>Nat.lt_of_lt_of_le h hk.size)) (StsAt_ls.1 (uhbt.keep hk (fun k h=>Nat.lt_of_lt_of_le h hk.size)))) ?_
    rintro wb r w2 B2 hkb ⟨rb,rbc,rbx,rfl,hbs,hbt⟩ hbb hk12 hB12 hBn2 hB2
    have hS2:∀ W,Keep B2 w2 W→Keep B1 w1 W:=fun W hk=>hk12.trans (hk.mono hB12)
    have hk02:Keep (·<w.heap.size) w w2:=hk01.trans (hk12.mono hB01)
    refine rk ?_
    refine p_takes [] 1 (Bs:=B1) (ws:=w1) (by kernel_rfl) hS2 (fun b hb=>by cases hb) ?_
    refine pR (Keep B1 w1) hS2 ?_
    refine gM [.slice ula uels.length ulc,.func (.func 142) #[] #[]] (fun W hk=>by have hk:=hk02.trans (hk.mono fun k h=>hB12 k (hB01 k h));exact eachSt N ihN uels _ _ _ _ W rfl (by omega) (by omega) ((uhls.keep hk).mono (fun k h=>Nat.lt_of_lt_of_le h hk.size)) (StsAt_ls.1 (uhlt.keep hk (fun k h=>Nat.lt_of_lt_of_le h hk.size)))) ?_
    rintro wc r w3 B3 hkc ⟨rl,rlc,rlx,rfl,hls,hlt⟩ hbc hk23 hB23 hBn3 hB3
    have hS3:∀ W,Keep B3 w3 W→Keep B1 w1 W:=fun W hk=>hS2 W (hk23.trans (hk.mono hB23))
    have hk03:Keep (·<w.heap.size) w w3:=hk02.trans (hk23.mono fun k h=>hB12 k (hB01 k h))
    refine rk ?_
    refine pR (Keep B1 w1) hS3 ?_
    refine rk ?_
    refine p_takes [] 1 (Bs:=B1) (ws:=w1) (by kernel_rfl) hS3 (fun b hb=>by cases hb) ?_
    refine p_done (by kernel_rfl) ?_ (Keep B1 w1) (by kernel_rfl) hS3
    refine rk ?_
    refine gR (.agg #[.int .i64 ukind,.string (str usn),.int .u8 uop,.int .u8 uty,.int .u64 ubits,.string (str uen),.slice ra uek.length rc,.slice rb ubody.length rbc,.slice rl uels.length rlc]) (fun W hk=>⟨_,rfl,⟨[.int .i64 ukind,.string (str usn),.int .u8 uop,.int .u8 uty,.int .u64 ubits,.string (str uen),.slice ra uek.length rc,.slice rb ubody.length rbc,.slice rl uels.length rlc],rfl,?_⟩,(hk03.trans (hk.mono fun k h=>hB23 k (hB12 k (hB01 k h)))).below⟩)
    have z1:=hka.size
    have z2:=hkb.size
    have z3:=hkc.size
    have z4:=hk01.size
    have z5:=hk12.size
    have z6:=hk23.size
    have z7:=hk.size
    have k3:Keep (NewS wc w3) w3 W:=hk.mono fun k h=>hBn3 k h.1.1 h.1.2
    have k2:Keep (NewS wb w2) w2 W:=(hk23.trans (hk.mono hB23)).mono fun k h=>hBn2 k h.1.1 h.1.2
    have k1:Keep (NewS wa w1) w1 W:=((hk12.trans ((hk23.trans (hk.mono hB23)).mono hB12))).mono fun k h=>hBn1 k h.1.1 h.1.2
    have n1:∀ k,NewS wa w1 k→NewS w W k:=fun k h=>h.up k1 h (by omega) (by omega)
    have n2:∀ k,NewS wb w2 k→NewS w W k:=fun k h=>h.up k2 h (by omega) (by omega)
    have n3:∀ k,NewS wc w3 k→NewS w W k:=fun k h=>h.up k3 h (by omega) (by omega)
    simp only [StAt]
    exact ⟨_,rb,rbc,rbx,rl,rlc,rlx,rfl,hds.keep k1 n1,(hbs.keep k2).mono n2,StsAt_ls.2 (hbt.imp fun _ _ h=>h.keep k2 n2),(hls.keep k3).mono n3,StsAt_ls.2 (hlt.imp fun _ _ h=>h.keep k3 n3)⟩
end Go.Proofs.YtiacalnkmnckjaaGreatDoor
end
section
namespace Go.Proofs.YtiacalnkmnckjaaGreatDoor
open Go.RowKit Go.As
def PgPrS (p:Pg) (w:World) (v:Value) (w':World):Prop:=
 ∃ a cap b cap2 d cap3 xs ys zs us,v = .agg #[.slice a p.shared.length cap,.slice b p.mutexes.length cap2,.slice d p.threads.length cap3]∧
   Sy.SlAt (NewS w w') w' a p.shared.length 3 xs∧LsAt VrAt p.shared xs∧Sy.SlAt (NewS w w') w' b p.mutexes.length 1 ys∧LsAt TxAt p.mutexes ys∧Sy.SlAt (NewS w w') w' d p.threads.length 3 zs∧LsAt (ThAt (NewS w w') w') p.threads zs∧
   Sy.SlAt (NewS w w') w' b cap2 1 (ys++us)∧(∀ u∈us,u∈([.string ⟨#[]⟩]:List Value))∧cap2≤maxLen
open Go.Sy in
set_option maxRecDepth 100000 in
theorem tcopyThread_any (s:Th) (cs:List Value) (w:World) (hbd:thw s≤1000000000000) (hc:ThAt (·<w.heap.size) w s cs):
  Calls Tryz.prog 74 #[.agg cs.toArray] w fun r w'=>∃ v,r = .returned v∧OnePr ThAt s w v w'∧Below w.heap.size w w':=by
 unfold thw at hbd
 obtain ⟨sa,scap,sxs,sb,scap2,sys,rfl,shs,sht,shb,shbt⟩:=hc
 refine Sy.enter (vs:=[.agg #[.string (str s.name),.slice sa s.locals.length scap,.slice sb s.body.length scap2]]) sy_fine Tryz.func74 rfl (fun γ=>norms_LR _) rfl (fun γ0 hγ0=>?_)
 refine rs [] 6 0 ?_
 refine good_plan sy_mixed (.take 0 (.take 3 (.alt (.run 1 (.alt (.run 2 (.run 4 (.take 6 (.run 5 (.run 7 (.take 8 .done)))))) (.run 4 (.run 2 (.take 6 (.run 5 (.run 7 (.take 8 .done)))))))) (.run 4 (.run 1 (.run 2 (.take 6 (.run 5 (.run 7 (.take 8 .done)))))))))) 9 (by kernel_rfl) ?_
 refine p_takes [] 2 (Bs:=(·<w.heap.size)) (ws:=w) (by kernel_rfl) (fun _ h=>h) (fun b hb=>by cases hb) ?_
 refine p_alt (by kernel_rfl) ?_ ?_
 ·
  refine pR (Keep (·<w.heap.size) w) (fun _ h=>h) ?_
  refine rk ?_
  refine p_alt (by kernel_rfl) ?_ ?_
  ·
   refine pR (Keep (·<w.heap.size) w) (fun _ h=>h) ?_
   refine gM [.slice sa s.locals.length scap] (fun W hk=>cloneVars sa s.locals.length scap sxs W (by omega) ((shs.keep hk).mono (fun k h=>Nat.lt_of_lt_of_le h hk.size))) ?_
   rintro wb r w2 B2 hkb ⟨ra,rac,zs1,rfl,hrs,_,_⟩ hbb hk02 hB02 hBn2 hB2
   have hS2:∀ W,Keep B2 w2 W→Keep (·<w.heap.size) w W:=fun W hk=>hk02.trans (hk.mono hB02)
   refine rk ?_
   refine pR (Keep (·<w.heap.size) w) hS2 ?_
   refine rk ?_
   refine p_takes [] 1 (Bs:=(·<w.heap.size)) (ws:=w) (by kernel_rfl) hS2 (fun b hb=>by cases hb) ?_
   refine pR (Keep (·<w.heap.size) w) hS2 ?_
   refine gM [.slice sb s.body.length scap2,.func (.func 142) #[] #[]] (fun W hk=>by have hk:=hS2 W hk;exact eachSt _ (tcopyStmt_any _) s.body _ _ _ _ W rfl (Nat.le_refl _) (by omega) ((shb.keep hk).mono (fun k h=>Nat.lt_of_lt_of_le h hk.size)) (StsAt_ls.1 (shbt.keep hk (fun k h=>Nat.lt_of_lt_of_le h hk.size)))) ?_
   rintro wc r w3 B3 hkc ⟨rb,rbc,rbx,rfl,hbs,hbt⟩ hbc hk23 hB23 hBn3 hB3
   have hS3:∀ W,Keep B3 w3 W→Keep (·<w.heap.size) w W:=fun W hk=>hS2 W (hk23.trans (hk.mono hB23))
   refine rk ?_
   refine pR (Keep (·<w.heap.size) w) hS3 ?_
   refine rk ?_
   refine p_takes [] 1 (Bs:=(·<w.heap.size)) (ws:=w) (by kernel_rfl) hS3 (fun b hb=>by cases hb) ?_
   refine p_done (by kernel_rfl) ?_ (Keep (·<w.heap.size) w) (by kernel_rfl) hS3
   refine rk ?_
   refine gR (.agg #[.string (str s.name),.slice ra s.locals.length rac,.slice rb s.body.length rbc]) (fun W hk=>⟨_,rfl,⟨[.string (str s.name),.slice ra s.locals.length rac,.slice rb s.body.length rbc],rfl,?_⟩,(hS3 W hk).below⟩)
   have z2:=hkb.size
   have z3:=hkc.size
   have z5:=hk02.size
   have z6:=hk23.size
   have z7:=hk.size
   have k3:Keep (NewS wc w3) w3 W:=hk.mono fun k h=>hBn3 k h.1.1 h.1.2
   have k2:Keep (NewS wb w2) w2 W:=(hk23.trans (hk.mono hB23)).mono fun k h=>hBn2 k h.1.1 h.1.2
   have n2:∀ k,NewS wb w2 k→NewS w W k:=fun k h=>h.up k2 h (by omega) (by omega)
   have n3:∀ k,NewS wc w3 k→NewS w W k:=fun k h=>h.up k3 h (by omega) (by omega)
   exact ⟨ra,rac,sxs,rb,rbc,rbx,rfl,(hrs.keep k2).mono n2,sht,(hbs.keep k3).mono n3,StsAt_ls.2 (hbt.imp fun _ _ h=>h.keep k3 n3)⟩
  ·
   refine pR (Keep (·<w.heap.size) w) (fun _ h=>h) ?_
   refine rk ?_
   refine pR (Keep (·<w.heap.size) w) (fun _ h=>h) ?_
   refine gM [.slice sa s.locals.length scap] (fun W hk=>cloneVars sa s.locals.length scap sxs W (by omega) ((shs.keep hk).mono (fun k h=>Nat.lt_of_lt_of_le h hk.size))) ?_
   rintro wb r w2 B2 hkb ⟨ra,rac,zs1,rfl,hrs,_,_⟩ hbb hk02 hB02 hBn2 hB2
   have hS2:∀ W,Keep B2 w2 W→Keep (·<w.heap.size) w W:=fun W hk=>hk02.trans (hk.mono hB02)
   refine rk ?_
   refine p_takes [] 1 (Bs:=(·<w.heap.size)) (ws:=w) (by kernel_rfl) hS2 (fun b hb=>by cases hb) ?_
   refine pR (Keep (·<w.heap.size) w) hS2 ?_
   refine gM [.slice sb s.body.length scap2,.func (.func 142) #[] #[]] (fun W hk=>by have hk:=hS2 W hk;exact eachSt _ (tcopyStmt_any _) s.body _ _ _ _ W rfl (Nat.le_refl _) (by omega) ((shb.keep hk).mono (fun k h=>Nat.lt_of_lt_of_le h hk.size)) (StsAt_ls.1 (shbt.keep hk (fun k h=>Nat.lt_of_lt_of_le h hk.size)))) ?_
   rintro wc r w3 B3 hkc ⟨rb,rbc,rbx,rfl,hbs,hbt⟩ hbc hk23 hB23 hBn3 hB3
   have hS3:∀ W,Keep B3 w3 W→Keep (·<w.heap.size) w W:=fun W hk=>hS2 W (hk23.trans (hk.mono hB23))
   refine rk ?_
   refine pR (Keep (·<w.heap.size) w) hS3 ?_
   refine rk ?_
   refine p_takes [] 1 (Bs:=(·<w.heap.size)) (ws:=w) (by kernel_rfl) hS3 (fun b hb=>by cases hb) ?_
   refine p_done (by kernel_rfl) ?_ (Keep (·<w.heap.size) w) (by kernel_rfl) hS3
   refine rk ?_
   refine gR (.agg #[.string (str s.name),.slice ra s.locals.length rac,.slice rb s.body.length rbc]) (fun W hk=>⟨_,rfl,⟨[.string (str s.name),.slice ra s.locals.length rac,.slice rb s.body.length rbc],rfl,?_⟩,(hS3 W hk).below⟩)
   have z2:=hkb.size
   have z3:=hkc.size
   have z5:=hk02.size
   have z6:=hk23.size
   have z7:=hk.size
   have k3:Keep (NewS wc w3) w3 W:=hk.mono fun k h=>hBn3 k h.1.1 h.1.2
   have k2:Keep (NewS wb w2) w2 W:=(hk23.trans (hk.mono hB23)).mono fun k h=>hBn2 k h.1.1 h.1.2
   have n2:∀ k,NewS wb w2 k→NewS w W k:=fun k h=>h.up k2 h (by omega) (by omega)
   have n3:∀ k,NewS wc w3 k→NewS w W k:=fun k h=>h.up k3 h (by omega) (by omega)
   exact ⟨ra,rac,sxs,rb,rbc,rbx,rfl,(hrs.keep k2).mono n2,sht,(hbs.keep k3).mono n3,StsAt_ls.2 (hbt.imp fun _ _ h=>h.keep k3 n3)⟩
 ·
  refine pR (Keep (·<w.heap.size) w) (fun _ h=>h) ?_
  refine rk ?_
  refine pR (Keep (·<w.heap.size) w) (fun _ h=>h) ?_
  refine rk ?_
  refine pR (Keep (·<w.heap.size) w) (fun _ h=>h) ?_
  refine gM [.slice sa s.locals.length scap] (fun W hk=>cloneVars sa s.locals.length scap sxs W (by omega) ((shs.keep hk).mono (fun k h=>Nat.lt_of_lt_of_le h hk.size))) ?_
  rintro wb r w2 B2 hkb ⟨ra,rac,zs1,rfl,hrs,_,_⟩ hbb hk02 hB02 hBn2 hB2
  have hS2:∀ W,Keep B2 w2 W→Keep (·<w.heap.size) w W:=fun W hk=>hk02.trans (hk.mono hB02)
  refine rk ?_
  refine p_takes [] 1 (Bs:=(·<w.heap.size)) (ws:=w) (by kernel_rfl) hS2 (fun b hb=>by cases hb) ?_
  refine pR (Keep (·<w.heap.size) w) hS2 ?_
  refine gM [.slice sb s.body.length scap2,.func (.func 142) #[] #[]] (fun W hk=>by have hk:=hS2 W hk;exact eachSt _ (tcopyStmt_any _) s.body _ _ _ _ W rfl (Nat.le_refl _) (by omega) ((shb.keep hk).mono (fun k h=>Nat.lt_of_lt_of_le h hk.size)) (StsAt_ls.1 (shbt.keep hk (fun k h=>Nat.lt_of_lt_of_le h hk.size)))) ?_
  rintro wc r w3 B3 hkc ⟨rb,rbc,rbx,rfl,hbs,hbt⟩ hbc hk23 hB23 hBn3 hB3
  have hS3:∀ W,Keep B3 w3 W→Keep (·<w.heap.size) w W:=fun W hk=>hS2 W (hk23.trans (hk.mono hB23))
  refine rk ?_
  refine pR (Keep (·<w.heap.size) w) hS3 ?_
  refine rk ?_
  refine p_takes [] 1 (Bs:=(·<w.heap.size)) (ws:=w) (by kernel_rfl) hS3 (fun b hb=>by cases hb) ?_
  refine p_done (by kernel_rfl) ?_ (Keep (·<w.heap.size) w) (by kernel_rfl) hS3
  refine rk ?_
  refine gR (.agg #[.string (str s.name),.slice ra s.locals.length rac,.slice rb s.body.length rbc]) (fun W hk=>⟨_,rfl,⟨[.string (str s.name),.slice ra s.locals.length rac,.slice rb s.body.length rbc],rfl,?_⟩,(hS3 W hk).below⟩)
  have z2:=hkb.size
  have z3:=hkc.size
  have z5:=hk02.size
  have z6:=hk23.size
  have z7:=hk.size
  have k3:Keep (NewS wc w3) w3 W:=hk.mono fun k h=>hBn3 k h.1.1 h.1.2
  have k2:Keep (NewS wb w2) w2 W:=(hk23.trans (hk.mono hB23)).mono fun k h=>hBn2 k h.1.1 h.1.2
  have n2:∀ k,NewS wb w2 k→NewS w W k:=fun k h=>h.up k2 h (by omega) (by omega)
  have n3:∀ k,NewS wc w3 k→NewS w W k:=fun k h=>h.up k3 h (by omega) (by omega)
  exact ⟨ra,rac,sxs,rb,rbc,rbx,rfl,(hrs.keep k2).mono n2,sht,(hbs.keep k3).mono n3,StsAt_ls.2 (hbt.imp fun _ _ h=>h.keep k3 n3)⟩
open Go.Sy in
set_option maxRecDepth 100000 in
theorem tcopy_any (p:Pg) (cs:List Value) (w:World) (hbd0:pwt p≤1000000000000) (hp:PgAt (·<w.heap.size) w p cs):
  Calls Tryz.prog 27 #[.agg cs.toArray] w fun r w'=>∃ v,r = .returned v∧PgPrS p w v w'∧Below w.heap.size w w':=by
 obtain ⟨a,cap,xs,b,cap2,ys,d,cap3,zs,rfl,hxs,hxt,hys,hyt,hzs,hzt⟩:=hp
 have hbd:p.shared.length+p.mutexes.length+thws p.threads≤1000000000000:=hbd0
 refine Sy.enter (vs:=[.agg #[.slice a p.shared.length cap,.slice b p.mutexes.length cap2,.slice d p.threads.length cap3]]) sy_fine Tryz.func27 rfl (fun γ=>norms_LR _) rfl (fun γ0 hγ0=>?_)
 refine rs [] 6 0 ?_
 refine good_lock [gz] (gz+1) (by kernel_rfl) (fun b hb=>hγ0 b (Nat.le_trans (Nat.le_add_right _ 1) hb)) ?_
 intro γ1 B1 w1 hle1 hγ1 hB01 hB1 hk01 hLk
 have hL1:∀ b,hasNat b [gz]=true→∃ p,γ1 b=some p∧B1 p.1:=fun b hb=>let ⟨p,h1,h2,_⟩:=hLk b hb;⟨p,h1,h2⟩
 refine good_plan sy_mixed (.take 0 (.take 1 (.take 3 (.take 4 (.take 6 (.take 7 (.run 2 (.run 5 (.run 8 (.take 9 .done)))))))))) 10 (by kernel_rfl) ?_
 refine p_takes [gz] 6 (Bs:=B1) (ws:=w1) (by kernel_rfl) (fun _ h=>h) hL1 ?_
 refine pR (Keep B1 w1) (fun _ h=>h) ?_
 refine gM [.slice a p.shared.length cap] (fun W hk=>by have hk:=hk01.trans (hk.mono hB01);exact cloneVars a p.shared.length cap xs W (by omega) ((hxs.keep hk).mono (fun k h=>Nat.lt_of_lt_of_le h hk.size))) ?_
 rintro wa r w2 B2 hka ⟨ra,rac,zs1,rfl,hra,_,_⟩ hba hk12 hB12 hBn2 hB2
 have hS2:∀ W,Keep B2 w2 W→Keep B1 w1 W:=fun W hk=>hk12.trans (hk.mono hB12)
 refine rk ?_
 refine pR (Keep B1 w1) hS2 ?_
 refine gM [.slice b p.mutexes.length cap2] (fun W hk=>by have hk:=hk01.trans ((hS2 W hk).mono hB01);exact cloneTexts b p.mutexes.length cap2 ys W (by omega) ((hys.keep hk).mono (fun k h=>Nat.lt_of_lt_of_le h hk.size))) ?_
 rintro wb r w3 B3 hkb ⟨rb,rbc,zs2,rfl,hrb,hrc,hzs2⟩ hbb hk23 hB23 hBn3 hB3
 have hS3:∀ W,Keep B3 w3 W→Keep B1 w1 W:=fun W hk=>hS2 W (hk23.trans (hk.mono hB23))
 refine rk ?_
 refine pR (Keep B1 w1) hS3 ?_
 refine gM [.slice d p.threads.length cap3,.func (.func 74) #[] #[]] (fun W hk=>by have hk:=hk01.trans ((hS3 W hk).mono hB01);exact eachTh 1000000000000 (fun s cs W _ h=>tcopyThread_any s cs W h) p.threads _ _ _ _ W rfl (by omega) (by omega) ((hzs.keep hk).mono (fun k h=>Nat.lt_of_lt_of_le h hk.size)) (hzt.imp fun _ _ h=>h.keep hk (fun k h=>Nat.lt_of_lt_of_le h hk.size))) ?_
 rintro wc r w4 B4 hkc ⟨rd,rdc,rdx,rfl,hrd,hrt⟩ hbc hk34 hB34 hBn4 hB4
 have hS4:∀ W,Keep B4 w4 W→Keep B1 w1 W:=fun W hk=>hS3 W (hk34.trans (hk.mono hB34))
 refine rk ?_
 refine p_takes [gz] 1 (Bs:=B1) (ws:=w1) (by kernel_rfl) hS4 hL1 ?_
 refine p_done (by kernel_rfl) ?_ (Keep B1 w1) (by kernel_rfl) hS4
 refine rk ?_
 refine gR (.agg #[.slice ra p.shared.length rac,.slice rb p.mutexes.length rbc,.slice rd p.threads.length rdc]) (fun W hk=>⟨_,rfl,⟨ra,rac,rb,rbc,rd,rdc,xs,ys,rdx,zs2,rfl,?_⟩,(hk01.trans ((hS4 W hk).mono hB01)).below⟩)
 have z1:=hka.size
 have z2:=hkb.size
 have z3:=hkc.size
 have z4:=hk01.size
 have z5:=hk12.size
 have z6:=hk23.size
 have z7:=hk34.size
 have z8:=hk.size
 have k4:Keep (NewS wc w4) w4 W:=hk.mono fun k h=>hBn4 k h.1.1 h.1.2
 have k3:Keep (NewS wb w3) w3 W:=(hk34.trans (hk.mono hB34)).mono fun k h=>hBn3 k h.1.1 h.1.2
 have k2:Keep (NewS wa w2) w2 W:=(hk23.trans ((hk34.trans (hk.mono hB34)).mono hB23)).mono fun k h=>hBn2 k h.1.1 h.1.2
 have n2:∀ k,NewS wa w2 k→NewS w W k:=fun k h=>h.up k2 h (by omega) (by omega)
 have n3:∀ k,NewS wb w3 k→NewS w W k:=fun k h=>h.up k3 h (by omega) (by omega)
 have n4:∀ k,NewS wc w4 k→NewS w W k:=fun k h=>h.up k4 h (by omega) (by omega)
 exact ⟨(hra.keep k2).mono n2,hxt,(hrb.keep k3).mono n3,hyt,(hrd.keep k4).mono n4,hrt.imp fun _ _ h=>h.keep k4 n4,(hrc.keep k3).mono n3,hzs2⟩
end Go.Proofs.YtiacalnkmnckjaaGreatDoor
end
section
namespace Go.Proofs.YtiacalnkmnckjaaGreatDoor
open Go.RowKit Go.As
theorem store_soft {P:Program} {ty:TypeId} (hz:Sy.szB P ty=some 1) {w:World} {b o:Nat} {c:Array Value} {e:TypeId} (hb:w.heap[b]?=some (.cells c e (0,0))) (ho:o<c.size) {v:Value} (hv:v.cells=#[v]) (h1:v.oneCell'=true):
  (Instr.storeAt ty (.pointer (some ⟨b,o,none⟩)) v).run P w = .ok () (w.setRow b (c.toList.take o++[v]++c.toList.drop (o+1)).toArray):=by
 have hst:=run_storeCells_at (P:=P) b o e [v] 0 c w hb (by simp only [List.length_cons,List.length_nil];omega) (by simpa using h1)
 simp only [Nat.add_zero,List.length_cons,List.length_nil,Nat.zero_add] at hst
 simp [Instr.storeAt,Instr.sureAddr,storeVar,Sy.szB_ok hz,hv,hst]
end Go.Proofs.YtiacalnkmnckjaaGreatDoor
end
section
namespace Go.Proofs.YtiacalnkmnckjaaGreatDoor
open Go.RowKit Go.As
theorem ld_pt {P:Program} {F:Nat→Prop} {w:World} {b o sz:Nat} {xs:List Value} {ty:TypeId} (h:Sy.SlAt F w (some ⟨b,o,none⟩) 1 sz xs) (hb:Sy.aggB P ty=some false) (j:Nat) {v:Value} (hv:xs[j]?=some v) {W:World} (hk:Sy.Keep F w W):
  (Instr.loadAt ty (.pointer (some ⟨b,o+j,none⟩))).run P W = .ok v W:=by
 have:=Sy.load_sl h hb 0 j (by simpa using hv) hk
 simpa [Sy.gB,Sy.oB] using this
end Go.Proofs.YtiacalnkmnckjaaGreatDoor
end
section
namespace Go.Proofs.YtiacalnkmnckjaaGreatDoor
open Go.RowKit Go.As
def evTab:List Nat:=[1,10,100,1000,10000,100000,1000000,10000000,100000000,1000000000,10000000000,100000000000,1000000000000,10000000000000,100000000000000,1000000000000000,10000000000000000,100000000000000000,1000000000000000000,10000000000000000000]
theorem tab_at {w:World} (h:Tab w):Sy.TabAt 1 evTab w:=by
 unfold Tab Lib.TabIs World.var? at h
 have hg:Tryz.prog.globalNamed "internal/strconv.uint64pow10" = some 1:=by kernel_rfl
 simp only [hg,Option.bind_some] at h
 have e:(Lib.pow10Tab.map fun z=>Value.int .u64 z).toArray=(evTab.map fun (n:Nat)=>Value.int .u64 (n:Int)).toArray:=by kernel_rfl
 rw [e] at h
 split at h
 · rename_i cs ty fz hh
   injection h with h
   subst h
   exact ⟨ty,fz,hh⟩
 · cases h
def syIT:Sy.Aux:=⟨evId,fun _ _=>none,Tab⟩
theorem sy_fineT:Sy.Fine Tryz.prog syIT:=Sy.fine_of evId_ok (fun f args av h=>by cases h) (fun w w' h hb=>h.below hb) (by kernel_rfl)
theorem sy_glob:1<Tryz.prog.globals.size:=of_decide_eq_true (by kernel_rfl)
end Go.Proofs.YtiacalnkmnckjaaGreatDoor
end
section
namespace Go.Proofs.YtiacalnkmnckjaaGreatDoor
open Go.RowKit Go.As
theorem ld_box {P:Program} {F:Nat→Prop} {w:World} {k n:Nat} {ty:TypeId} {cs:List Value} (h:Sy.SlAt F w (some ⟨k,0,none⟩) 1 n cs) (hb:Sy.aggB P ty=some true) (hs:Sy.szB P ty=some n) {W:World} (hk:Sy.Keep F w W):
  (Instr.loadAt ty (.pointer (some ⟨k,0,none⟩))).run P W = .ok (.agg cs.toArray) W:=by
 have:=Sy.load_slA h hb hs 0 0 (cs:=cs) (by have:=h.len;omega) (fun j v hv=>by simpa using hv) hk
 simpa [Sy.gB,Sy.oB] using this
theorem box_sl {F:Nat→Prop} {w:World} {k ty n:Nat} {vals:List Value} (h:w.heap[k]?=some (.cells vals.toArray ty (0,0))) (hF:F k) (hn:vals.length=n):Sy.SlAt F w (some ⟨k,0,none⟩) 1 n vals:=
 ⟨by omega,.inr ⟨rfl,hF,fun j v hv=>by
  simp only [World.cell?,Sy.gB,Sy.oB,Nat.zero_add]
  rw [h]
  simpa using hv⟩⟩
def seqR:Code→Code
 | .seq _ b=>b
 | c=>c
end Go.Proofs.YtiacalnkmnckjaaGreatDoor
end
section
namespace Go.Proofs.YtiacalnkmnckjaaGreatDoor
open Go.RowKit Go.As
noncomputable def okE (r:Nat) (e:Ex):Bool:=decide (hgt e≤r)&&(exT e).isSome
noncomputable def okEs (r:Nat) (l:List Ex):Bool:=decide (hgts l≤r)&&(exTs l).isSome
theorem okEs_nil (r:Nat):okEs r []=true:=by simp [okEs,hgts,exTs]
theorem okEs_cons (r:Nat) (e:Ex) (l:List Ex):okEs r (e::l)=(okE r e&&okEs r l):=by
 unfold okEs okE
 have hh:hgts (e::l)=max (hgt e) (hgts l):=by simp only [hgts]
 simp only [exTs]
 by_cases h1:hgt e≤r
 · by_cases h2:hgts l≤r
   · rw [decide_eq_true (show hgts (e::l)≤r by omega),decide_eq_true h1,decide_eq_true h2]
     cases exT e with
     | none=>rfl
     | some t=>cases exTs l <;> rfl
   · rw [decide_eq_false (show ¬ hgts (e::l)≤r by omega),decide_eq_false h2]
     simp
 · rw [decide_eq_false (show ¬ hgts (e::l)≤r by omega),decide_eq_false h1]
   simp
theorem okEs_app (r:Nat):∀ (l m:List Ex),okEs r (l++m)=(okEs r l&&okEs r m)
 | [],m=>by simp [okEs_nil]
 | e::l,m=>by rw [List.cons_append,okEs_cons,okEs_cons,okEs_app r l m,Bool.and_assoc]
theorem okE_zero (e:Ex):okE 0 e=false:=by
 cases e
 unfold okE
 simp [hgt]
noncomputable def litL (op ty:Int) (bn:Nat):Bool:=if op=1 then litB ty bn else vEq ty bn 0 0
noncomputable def namL (op:Int) (name:List UInt8):Bool:=if op=2 then nameB name else Sy.bEqL name []
theorem vEq_zero (ty:Int) (bn:Nat):vEq ty bn 0 0=true↔ty=0∧(bn:Int)=0:=by
 unfold vEq
 rw [Sy.intEq_eq,Sy.intEq_eq]
 simp
theorem bEq_nil (name:List UInt8):Sy.bEqL name []=true↔name=[]:=by
 rw [Sy.bEqL_eq]
 simp
theorem okE_mk (r:Nat) (op ty:Int) (bn:Nat) (name:List UInt8) (kids:List Ex) (hb:bn<18446744073709551616):
  okE (r+1) (.mk op ty bn name kids)=(decide (kidsN op=(kids.length:Int))&&(okEs r kids&&(litL op ty bn&&namL op name))):=by
 unfold okE okEs
 have hh:hgt (.mk op ty bn name kids)=hgts kids+1:=by simp only [hgt]
 by_cases h:hgts kids≤r
 · rw [decide_eq_true (show hgt (.mk op ty bn name kids)≤r+1 by omega),decide_eq_true h]
   simp only [exT,Bool.true_and]
   cases hx:exTs kids with
   | none=>simp
   | some ks=>
     have hl:=exTs_len hx
     simp only [Option.isSome_some,Bool.true_and]
     by_cases z1:op≠1∧¬ (ty=0∧(bn:Int)=0)
     · have:litL op ty bn=false:=by
        unfold litL
        rw [if_neg z1.1,← Bool.not_eq_true,vEq_zero]
        exact z1.2
       rw [this,if_pos (.inl z1)]
       simp
     by_cases z2:op≠2∧name≠[]
     · have:namL op name=false:=by
        unfold namL
        rw [if_neg z2.1,← Bool.not_eq_true,bEq_nil]
        exact z2.2
       rw [this,if_pos (.inr z2)]
       simp
     rw [if_neg (by rintro (h | h) <;> contradiction)]
     have hz:op≠1→litL op ty bn=true:=fun h=>by
      unfold litL
      rw [if_neg h,vEq_zero]
      exact Classical.byContradiction fun h'=>z1 ⟨h,h'⟩
     have hn:op≠2→namL op name=true:=fun h=>by
      unfold namL
      rw [if_neg h,bEq_nil]
      exact Classical.byContradiction fun h'=>z2 ⟨h,h'⟩
     have hk0:kids.length=ks.length:=hl.symm
     rw [hk0]
     by_cases c1:op=1
     · subst c1
       rw [if_pos rfl,hn (by decide),show kidsN 1=0 from rfl,show litL 1 ty bn=litB ty bn from rfl,(lit_plain ty bn hb).1]
       cases ks <;> simp <;> omega
     rw [if_neg c1]
     by_cases c2:op=2
     · subst c2
       rw [if_pos rfl,hz (by decide),show kidsN 2=0 from rfl,show namL 2 name=nameB name from rfl]
       cases ks with
       | nil=>cases nameB name <;> simp
       | cons a b=>simp;omega
     rw [if_neg c2,hz c1,hn c2]
     unfold kidsN
     rw [if_neg (show ¬ (op=1∨op=2) by omega)]
     by_cases c3:3≤op∧op≤15
     · rw [if_pos c3,if_pos c3]
       match ks with
       | []=>simp
       | [_]=>simp
       | [_,_]=>simp
       | _::_::_::l=>simp;omega
     rw [if_neg c3,if_neg c3]
     by_cases c4:16≤op∧op≤19
     · rw [if_pos c4]
       have h4:op=16∨op=17∨op=18∨op=19:=by omega
       match ks with
       | []=>rcases h4 with h | h | h | h <;> simp [h]
       | [_]=>rcases h4 with h | h | h | h <;> simp [h]
       | _::_::l=>rcases h4 with h | h | h | h <;> simp [h] <;> omega
     · rw [if_neg c4,if_neg (show ¬ op=16 by omega),if_neg (show ¬ op=17 by omega),if_neg (show ¬ op=18 by omega),if_neg (show ¬ op=19 by omega)]
       simp
 · rw [decide_eq_false (show ¬ hgt (.mk op ty bn name kids)≤r+1 by omega),decide_eq_false h]
   simp
theorem exBs_app:∀ (l r:List Ex),exBs (l++r)=exBs l+exBs r
 | [],r=>by simp [exBs]
 | e::l,r=>by
   rw [List.cons_append]
   simp only [exBs]
   rw [exBs_app l r]
   omega
open Go.Sy in
set_option maxRecDepth 100000 in
theorem zero_any (ty bits:Int) (w:World):Calls Tryz.prog 131 #[.agg #[.int .u8 ty,.int .u64 bits]] w fun e w'=>e = .returned (.bool (vEq ty bits 0 0))∧Below w.heap.size w w':=by
 refine Sy.enter (vs:=[.agg #[.int .u8 ty,.int .u64 bits]]) sy_fine Tryz.func131 rfl (fun γ=>norms_LR _) rfl (fun γ0 hγ0=>?_)
 refine rs [5] 60 0 ?_
 refine gV (.bool (vEq ty bits 0 0)) (S:=(do eqGuard .eql 31 (.tmp 3) (.tmp 4) (.agg #[.int .u8 ty,.int .u64 bits]) (.agg #[.int .u8 0,.int .u64 0]);binOp .eql 31 (.agg #[.int .u8 ty,.int .u64 bits]) (.agg #[.int .u8 0,.int .u64 0]))) (fun W _=>run_eql_value _ _ _ _ _ _ W) ?_
 refine rs [] 60 1 ?_
 exact gR (.bool (vEq ty bits 0 0)) (fun W hk=>⟨rfl,hk.below⟩)
open Go.Sy in
set_option maxRecDepth 100000 in
theorem texpr_any:∀ (N:Nat) (e:Ex) (cs:List Value) (r:Nat) (w:World),wgt e≤N→wgt e≤1000000000000→r≤1000→exB e≤1000000000000→exR e→Tab w→ExAt (·<w.heap.size) w e cs→
  Calls Tryz.prog 59 #[.agg cs.toArray,.int .i64 (r:Int)] w fun v w'=>∃ h,v = .returned (.tuple #[.int .i64 h,.bool (okE r e)])∧(okE r e=true→h=(hgt e:Nat))∧Below w.heap.size w w':=by
 intro N
 induction N with
 | zero=>intro e cs r w h;have:=wgt_pos e;omega
 | succ N ihN=>
   intro e cs r w hN hbd hr hB hR ht hat
   obtain ⟨op,ty,bits,name,kids⟩:=e
   simp only [ExAt] at hat
   obtain ⟨a,cap,xs,rfl,hsl,hks⟩:=hat
   simp only [exR] at hR
   obtain ⟨hop,hty,hbit,hkR⟩:=hR
   obtain ⟨bn,rfl⟩:∃ bn:Nat,bits=(bn:Int):=⟨bits.toNat,by omega⟩
   have hbn:bn<18446744073709551616:=by omega
   simp only [wgt] at hN hbd
   simp only [exB] at hB
   have hnm:name.length≤maxLen:=by unfold maxLen;omega
   obtain ⟨n,hn⟩:∃ n,n=kids.length:=⟨_,rfl⟩
   have hnl:=wgts_len kids
   rw [← hn] at hsl hnl ⊢
   refine Sy.enter (vs:=[.agg #[.int .u8 op,.int .u8 ty,.int .u64 (bn:Int),.string (str name),.slice a n cap],.int .i64 (r:Int)]) sy_fine Tryz.func59 rfl (fun γ=>norms_LR _) rfl (fun γ0 hγ0=>?_)
   refine rk ?_
   refine gP [.int .u8 op] (.int .i64 (kidsN op)) (fun W hk=>kids_any op W) ?_
   refine rs [20] 60 0 ?_
   by_cases hk0:kidsN op<0
   ·
    refine gS 18 (x := .bool (intLt (kidsN op) 0)) (.bool true) (by rw [lt_t hk0]) ?_
    refine gS 19 (x := .bool (intLt (kidsN op) 0)) (.bool true) (by rw [lt_t hk0]) ?_
    refine rs [] 60 4 ?_
    refine gR (.tuple #[.int .i64 0,.bool false]) (fun W hk=>⟨0,?_,fun h=>?_,hk.below⟩)
    · rw [show okE r (.mk op ty bn name kids)=false by cases r with | zero=>exact okE_zero _ | succ r=>rw [okE_mk _ _ _ _ _ _ hbn,decide_eq_false (by omega)];rfl]
    · rw [show okE r (.mk op ty bn name kids)=false by cases r with | zero=>exact okE_zero _ | succ r=>rw [okE_mk _ _ _ _ _ _ hbn,decide_eq_false (by omega)];rfl] at h;cases h
   refine gS 18 (x := .bool (intLt (kidsN op) 0)) (.bool false) (by rw [lt_f hk0]) ?_
   refine gS 19 (x := .bool (intLt (kidsN op) 0)) (.bool false) (by rw [lt_f hk0]) ?_
   refine rs [27] 60 0 ?_
   by_cases hk1:(n:Int)=kidsN op
   rotate_left
   ·
    refine gS 24 (x := .bool (!(intEq (n:Int) (kidsN op)))) (.bool true) (by rw [eq_f hk1];rfl) ?_
    refine gS 25 (x := .bool (!(intEq (n:Int) (kidsN op)))) (.bool true) (by rw [eq_f hk1];rfl) ?_
    refine gS 26 (x := .bool (!(intEq (n:Int) (kidsN op)))) (.bool true) (by rw [eq_f hk1];rfl) ?_
    refine rs [] 60 4 ?_
    refine gR (.tuple #[.int .i64 0,.bool false]) (fun W hk=>⟨0,?_,fun h=>?_,hk.below⟩)
    · rw [show okE r (.mk op ty bn name kids)=false by cases r with | zero=>exact okE_zero _ | succ r=>rw [okE_mk _ _ _ _ _ _ hbn,decide_eq_false (by omega)];rfl]
    · rw [show okE r (.mk op ty bn name kids)=false by cases r with | zero=>exact okE_zero _ | succ r=>rw [okE_mk _ _ _ _ _ _ hbn,decide_eq_false (by omega)];rfl] at h;cases h
   refine gS 24 (x := .bool (!(intEq (n:Int) (kidsN op)))) (.bool false) (by rw [eq_t hk1];rfl) ?_
   refine gS 25 (x := .bool (!(intEq (n:Int) (kidsN op)))) (.bool false) (by rw [eq_t hk1];rfl) ?_
   refine gS 26 (x := .bool (!(intEq (n:Int) (kidsN op)))) (.bool false) (by rw [eq_t hk1];rfl) ?_
   refine rk ?_
   cases r with
   | zero=>
     refine gK true (b:=intLt ((0:Nat):Int) 1) (rfl) ?_
     refine rs [] 60 1 ?_
     exact gR (.tuple #[.int .i64 0,.bool false]) (fun W hk=>⟨0,(congrArg (fun b=>Ending.returned (.tuple #[.int .i64 0,.bool b])) (okE_zero _).symm),(fun h=>by rw [okE_zero] at h;cases h),hk.below⟩)
   | succ r=>
     rw [okE_mk _ _ _ _ _ _ hbn,decide_eq_true (by omega),Bool.true_and]
     refine gK false (b:=intLt ((r+1:Nat):Int) 1) (lt_f (by omega)) ?_
     obtain ⟨L,hL⟩:∃ L,L=litL op ty bn:=⟨_,rfl⟩
     obtain ⟨M,hM⟩:∃ M,M=namL op name:=⟨_,rfl⟩
     rw [← hL,← hM]
     have hγ1:∀ b,gz+1≤b→γ0 b=none:=fun b hb=>hγ0 b (Nat.le_trans (Nat.le_succ _) hb)
     have tail:Go.Sy.Good Tryz.prog (·<w.heap.size) w γ0 Tryz.f59.ntmps (bodyPostD Tryz.prog Tryz.f59 (fun e w'=>∃ h,e = .returned (.tuple #[.int .i64 h,.bool (okEs r kids&&(L&&M))])∧((okEs r kids&&(L&&M))=true→h=(hgt (.mk op ty bn name kids):Nat))∧Below w.heap.size w w')) ⟨[.code (seqR (seqR (seqR (seqR (seqR (Tryz.f59.body.getD .skip))))))],⟨mkT [(1,.v (.int .i64 ((r+1:Nat):Int))),(2,.ptr gz 0),(7,.v (.bool L)),(8,.v (.bool M))],mkH [(gz,some (.cells 34 true true true 5 (putL .leaf 0 [.v (.int .u8 op),.v (.int .u8 ty),.v (.int .u64 (bn:Int)),.v (.string (str name)),.v (.slice a n cap)])))],gz+1,[]⟩⟩:=by
      refine rk ?_
      refine good_toLp ?_
      refine good_loopI (fun i:List Ex×List Ex=>i.2.length) (fun i=>kids=i.1++i.2∧okEs r i.1=true) (fun i=>⟨mkT [(1,.v (.int .i64 ((r+1:Nat):Int))),(7,.v (.bool L)),(8,.v (.bool M)),(9,.v (.int .i64 ((hgts i.1:Nat):Int))),(49,.v (.slice a n cap)),(50,.v (.int .i64 (n:Int))),(51,.v (.int .i64 (i.1.length:Int)))],mkH [(gz,some (.cells 34 true true true 5 (putL .leaf 0 [.v (.int .u8 op),.v (.int .u8 ty),.v (.int .u64 (bn:Int)),.v (.string (str name)),.v (.slice a n cap)])))],gz+1,[]⟩)
       ([],kids) ⟨rfl,okEs_nil r⟩ (by kernel_rfl)
       (fun h=>good_sub _ [(1,.v (.int .i64 ((r+1:Nat):Int))),(7,.v (.bool L)),(8,.v (.bool M)),(9,.v (.int .i64 ((hgts ([]:List Ex):Nat):Int))),(49,.v (.slice a n cap)),(50,.v (.int .i64 (n:Int))),(51,.v (.int .i64 (([]:List Ex).length:Int)))] [(gz,some (.cells 34 true true true 5 (putL .leaf 0 [.v (.int .u8 op),.v (.int .u8 ty),.v (.int .u64 (bn:Int)),.v (.string (str name)),.v (.slice a n cap)])))] (gz+1) rfl (by kernel_rfl) (by kernel_rfl) (by kernel_rfl) (by kernel_rfl) (by kernel_rfl) hγ1 (by kernel_rfl) h) ?_
      rintro ⟨l1,l2⟩ ⟨hI,hok⟩ ih
      have hI:kids=l1++l2:=hI
      have hok:okEs r l1=true:=hok
      have hn2:n=l1.length+l2.length:=by rw [hn,hI,List.length_append]
      have hw1:wgts kids=wgts l1+wgts l2:=by rw [hI,wgts_app]
      have hh1:=hgts_le l1
      have hh2:=hgts_le kids
      refine rk ?_
      cases l2 with
      | nil=>
        refine gK false (b:=intLt (l1.length:Int) (n:Int)) (lt_f (by simp at hn2;omega)) ?_
        refine rs [72] 60 0 ?_
        have hkl:l1=kids:=by rw [hI];simp
        have e1:hgt (.mk op ty bn name l1)=hgts l1+1:=by simp only [hgt]
        rw [← hkl] at hh2 ⊢
        rw [hok,Bool.true_and]
        cases L with
        | false=>
          refine rs [] 60 3 ?_
          refine gR (.tuple #[.int .i64 (wrapF .i64 ((hgts l1:Nat)+1)),.bool (false&&M)]) (fun W hk=>⟨_,rfl,fun _=>?_,hk.below⟩)
          rw [e1,wr64 (by omega) (by omega)]
          omega
        | true=>
          refine rs [] 60 3 ?_
          refine gR (.tuple #[.int .i64 (wrapF .i64 ((hgts l1:Nat)+1)),.bool (true&&M)]) (fun W hk=>⟨_,rfl,fun _=>?_,hk.below⟩)
          rw [e1,wr64 (by omega) (by omega)]
          omega
      | cons x l3=>
        have hin:l1.length<n:=by rw [hn2,List.length_cons];omega
        have hks2:=hks
        rw [hI] at hks2
        obtain ⟨c,hc,hcell⟩:=hks2.at_
        have hcl:=hc.len
        simp only [wgts] at hw1
        have hwe:=wgt_pos x
        have hhe:=hgt_le x
        have hxR:exR x:=exRs_mem.1 hkR x (by rw [hI];simp)
        refine gK true (b:=intLt (l1.length:Int) (n:Int)) (lt_t (by omega)) ?_
        refine rk ?_
        refine gV (.pointer (some ⟨gB a,oB a+l1.length*5,none⟩)) (S:=Instr.indexAt 32 (.slice a n cap) (.int .i64 (l1.length:Int))) (fun W _=>idx_sl (e:=34) hsl (by kernel_rfl) (by kernel_rfl) hin W) ?_
        refine rk ?_
        have hld:=fun W hk=>load_slA (P:=Tryz.prog) (ty:=34) (m:=5) (cs:=c) hsl (by kernel_rfl) (by kernel_rfl) l1.length 0 hcl hcell (W:=W) hk
        have hcall:=fun W hk=>ihN x c r W (by omega) (by omega) (by omega) (by rw [hI] at hB;simp only [exBs_app,exBs] at hB;omega) hxR (ht.below (Keep.below hk)) (hc.keep hk (fun k h=>Nat.lt_of_lt_of_le h hk.size))
        obtain ⟨op2,ty2,bits2,name2,kids2⟩:=x
        simp only [ExAt] at hc
        obtain ⟨a2,cap2,xs2,rfl,_⟩:=hc
        refine gV (.agg #[.int .u8 op2,.int .u8 ty2,.int .u64 bits2,.string (str name2),.slice a2 kids2.length cap2]) (S:=Instr.loadAt 34 (.pointer (some ⟨gB a,oB a+l1.length*5+0,none⟩))) (fun W hk=>hld W hk) ?_
        refine rs [59] 60 0 ?_
        refine gS 58 (x := .int .i64 (wrapF .i64 (((r+1:Nat):Int) - 1))) (.int .i64 (r:Int)) (by rw [wr64 (by omega) (by omega)];congr 1;omega) ?_
        refine gE [.agg #[.int .u8 op2,.int .u8 ty2,.int .u64 bits2,.string (str name2),.slice a2 kids2.length cap2],.int .i64 (r:Int)] (fun v=>∃ h,v = .tuple #[.int .i64 h,.bool (okE r (Ex.mk op2 ty2 bits2 name2 kids2))]∧(okE r (Ex.mk op2 ty2 bits2 name2 kids2)=true→h=(hgt (Ex.mk op2 ty2 bits2 name2 kids2):Nat))) (fun W hk=>(hcall W hk).mono fun e w' ⟨h,h1,h2,h3⟩=>⟨_,h1,⟨h,rfl,h2⟩,h3⟩) ?_
        rintro v w2 ⟨h,rfl,hh⟩ hk2
        cases hx:okE r (Ex.mk op2 ty2 bits2 name2 kids2) with
        | false=>
          refine rs [] 60 3 ?_
          have hall:okEs r kids=false:=by rw [hI,okEs_app,okEs_cons,hx];simp
          refine gR (.tuple #[.int .i64 0,.bool false]) (fun W hk=>⟨0,(by rw [hall];rfl),(fun h=>by rw [hall] at h;cases h),hk.below⟩)
        | true=>
          have hh:=hh hx
          subst hh
          refine rs [] 60 1 ?_
          have hs1:okEs r (l1++[(Ex.mk op2 ty2 bits2 name2 kids2)])=true:=by rw [okEs_app,okEs_cons,hok,hx,okEs_nil];rfl
          refine gS 9 (x := .int .i64 (if ((hgt (Ex.mk op2 ty2 bits2 name2 kids2):Nat):Int) > ((hgts l1:Nat):Int) then ((hgt (Ex.mk op2 ty2 bits2 name2 kids2):Nat):Int) else ((hgts l1:Nat):Int))) (.int .i64 ((hgts (l1++[(Ex.mk op2 ty2 bits2 name2 kids2)]):Nat):Int)) (by rw [hgts_snoc];congr 1;split <;> omega) ?_
          refine gS 51 (x := .int .i64 (wrapF .i64 ((l1.length:Int)+1))) (.int .i64 ((l1++[(Ex.mk op2 ty2 bits2 name2 kids2)]).length:Nat)) (by rw [wr64 (by omega) (by omega)];congr 1;simp) ?_
          exact gU _ [(1,.v (.int .i64 ((r+1:Nat):Int))),(7,.v (.bool L)),(8,.v (.bool M)),(9,.v (.int .i64 ((hgts (l1++[(Ex.mk op2 ty2 bits2 name2 kids2)]):Nat):Int))),(49,.v (.slice a n cap)),(50,.v (.int .i64 (n:Int))),(51,.v (.int .i64 ((l1++[(Ex.mk op2 ty2 bits2 name2 kids2)]).length:Int)))] [(gz,some (.cells 34 true true true 5 (putL .leaf 0 [.v (.int .u8 op),.v (.int .u8 ty),.v (.int .u64 (bn:Int)),.v (.string (str name)),.v (.slice a n cap)])))] (gz+1) hγ1 (ih (l1++[(Ex.mk op2 ty2 bits2 name2 kids2)],l3) ⟨by show kids=(l1++[_])++l3;rw [hI];simp,hs1⟩ (by show l3.length<(_::l3).length;simp))
     refine rk ?_
     refine good_draw sy_mixed (by kernel_rfl) ?_
     refine q_run [] 60 ?_
     refine qB [.agg #[.int .u8 ty,.int .u64 (bn:Int)]] (.bool (vEq ty (bn:Int) 0 0)) (fun W hk=>zero_any _ _ W) ?_
     refine q_run [] 60 ?_
     refine qE ?_
     refine rk ?_
     by_cases c1:op=1
     ·
      refine gK true (b:=intEq op 1) (eq_t c1) ?_
      refine rk ?_
      refine gX [.agg #[.int .u8 ty,.int .u64 (bn:Int)]] (.bool (litB ty bn)) (fun W hk=>tliteral_any ty bn hbn W (ht.below (Keep.below hk))) ?_
      refine rs [] 3 0 ?_
      refine gS 7 (x := .bool (litB ty bn)) (.bool L) (by rw [hL,litL,if_pos c1]) ?_
      refine gS 8 (x := .bool (bEqL name [])) (.bool M) (by rw [hM,namL,if_neg (by omega)]) ?_
      exact gU [.code (seqR (seqR (seqR (seqR (seqR (Tryz.f59.body.getD .skip))))))] [(1,.v (.int .i64 ((r+1:Nat):Int))),(2,.ptr gz 0),(7,.v (.bool L)),(8,.v (.bool M))] [(gz,some (.cells 34 true true true 5 (putL .leaf 0 [.v (.int .u8 op),.v (.int .u8 ty),.v (.int .u64 (bn:Int)),.v (.string (str name)),.v (.slice a n cap)])))] (gz+1) hγ1 tail
     refine gK false (b:=intEq op 1) (eq_f c1) ?_
     refine rk ?_
     by_cases c2:op=2
     ·
      refine gK true (b:=intEq op 2) (eq_t c2) ?_
      refine rk ?_
      refine gP [.string (str name)] (.bool (nameB name)) (fun W hk=>name_any name W hnm) ?_
      refine rs [] 3 0 ?_
      refine gS 7 (x := .bool (vEq ty (bn:Int) 0 0)) (.bool L) (by rw [hL,litL,if_neg c1]) ?_
      refine gS 8 (x := .bool (nameB name)) (.bool M) (by rw [hM,namL,if_pos c2]) ?_
      exact gU [.code (seqR (seqR (seqR (seqR (seqR (Tryz.f59.body.getD .skip))))))] [(1,.v (.int .i64 ((r+1:Nat):Int))),(2,.ptr gz 0),(7,.v (.bool L)),(8,.v (.bool M))] [(gz,some (.cells 34 true true true 5 (putL .leaf 0 [.v (.int .u8 op),.v (.int .u8 ty),.v (.int .u64 (bn:Int)),.v (.string (str name)),.v (.slice a n cap)])))] (gz+1) hγ1 tail
     refine gK false (b:=intEq op 2) (eq_f c2) ?_
     refine rs [] 2 0 ?_
     refine gS 7 (x := .bool (vEq ty (bn:Int) 0 0)) (.bool L) (by rw [hL,litL,if_neg c1]) ?_
     refine gS 8 (x := .bool (bEqL name [])) (.bool M) (by rw [hM,namL,if_neg c2]) ?_
     exact gU [.code (seqR (seqR (seqR (seqR (seqR (Tryz.f59.body.getD .skip))))))] [(1,.v (.int .i64 ((r+1:Nat):Int))),(2,.ptr gz 0),(7,.v (.bool L)),(8,.v (.bool M))] [(gz,some (.cells 34 true true true 5 (putL .leaf 0 [.v (.int .u8 op),.v (.int .u8 ty),.v (.int .u64 (bn:Int)),.v (.string (str name)),.v (.slice a n cap)])))] (gz+1) hγ1 tail
end Go.Proofs.YtiacalnkmnckjaaGreatDoor
end
section
namespace Go.Proofs.YtiacalnkmnckjaaGreatDoor
open Go.RowKit Go.As
open Go.Sy in
set_option maxRecDepth 100000 in
theorem idxSt_any (p:St→Bool) (q:Nat) (L:List (St)) (a:Option Addr) (n cap:Nat) (xs:List Value) (w:World) (hn:n=L.length) (hbd:n≤1000000000000) (hsl:SlAt (·<w.heap.size) w a n 9 xs) (hks:LsAt (StAt (·<w.heap.size) w) L xs) (hf:∀ x∈L,∀ cs W,Sy.Keep (·<w.heap.size) w W→StAt (·<W.heap.size) W x cs→Calls Tryz.prog 193 #[.agg cs.toArray,.pointer (some ⟨q,0,none⟩)] W fun e w'=>e = .returned (.bool (p x))∧Below W.heap.size W w'):
  Calls Tryz.prog 223 #[.slice a n cap,.func (.func 193) #[] #[.pointer (some ⟨q,0,none⟩)]] w fun e w'=>∃ i:Int,e = .returned (.int .i64 i)∧L.any p=decide (0≤i)∧Below w.heap.size w w':=by
 refine Sy.enter (vs:=[.slice a n cap,.func (.func 193) #[] #[.pointer (some ⟨q,0,none⟩)]]) sy_fine Tryz.func223 rfl (fun γ=>norms_LR _) rfl (fun γ0 hγ0=>?_)
 refine rk ?_
 refine good_toLp ?_
 refine good_loopI (fun i:List (St)×List (St)=>i.2.length) (fun i=>L=i.1++i.2∧i.1.any p=false) (fun i=>⟨mkT [(0,.v (.slice a n cap)),(1,norm (.func (.func 193) #[] #[.pointer (some ⟨q,0,none⟩)])),(7,.v (.int .i64 (n:Int))),(8,.v (.int .i64 (i.1.length:Int)))],mkH [],gz,[]⟩)
  ([],L) ⟨rfl,rfl⟩ (by kernel_rfl)
  (fun h=>good_sub _ [(0,.v (.slice a n cap)),(1,norm (.func (.func 193) #[] #[.pointer (some ⟨q,0,none⟩)])),(7,.v (.int .i64 (n:Int))),(8,.v (.int .i64 (([]:List (St)).length:Int)))] [] gz rfl (by kernel_rfl) (by kernel_rfl) (by kernel_rfl) (by kernel_rfl) (by kernel_rfl) hγ0 (by kernel_rfl) h) ?_
 rintro ⟨l1,l2⟩ ⟨hI,hany⟩ ih
 have hI:L=l1++l2:=hI
 have hany:l1.any p=false:=hany
 have hn2:n=l1.length+l2.length:=by rw [hn,hI,List.length_append]
 refine rk ?_
 cases l2 with
 | nil=>
   refine gK false (b:=intLt (l1.length:Int) (n:Int)) (lt_f (by simp at hn2;omega)) ?_
   refine rk ?_
   exact gR (.int .i64 (-1)) (fun W hk=>⟨_,rfl,(by rw [hI,List.append_nil,hany];rfl),hk.below⟩)
 | cons x l3=>
   have hin:l1.length<n:=by rw [hn2,List.length_cons];omega
   have hks2:=hks
   rw [hI] at hks2
   obtain ⟨c,hc,hcell⟩:=LsAt.at_ (k:=9) (fun _ _ h=>h.len) hks2
   have hcall:=fun W (hk:Keep (·<w.heap.size) w W)=>hf x (by rw [hI];simp) c W hk (hc.keep hk (fun k h=>Nat.lt_of_lt_of_le h hk.size))
   refine gK true (b:=intLt (l1.length:Int) (n:Int)) (lt_t (by omega)) ?_
   refine rk ?_
   refine gV (.pointer (some ⟨gB a,oB a+l1.length*9,none⟩)) (S:=Instr.indexAt 54 (.slice a n cap) (.int .i64 (l1.length:Int))) (fun W _=>idx_sl (e:=56) hsl (by kernel_rfl) (by kernel_rfl) hin W) ?_
   refine rk ?_
   obtain ⟨ukind,usn,⟨uop,uty,ubits,uen,uek⟩,ubody,uels⟩:=x
   simp only [StAt] at hc
   obtain ⟨ucs,uba,ubc,ubx,ula,ulc,ulx,rfl,uhe,_⟩:=hc
   simp only [ExAt] at uhe
   obtain ⟨uea,uec,uex,rfl,_⟩:=uhe
   refine gV (.agg #[.int .i64 ukind,.string (str usn),.int .u8 uop,.int .u8 uty,.int .u64 ubits,.string (str uen),.slice uea uek.length uec,.slice uba ubody.length ubc,.slice ula uels.length ulc]) (S:=Instr.loadAt 56 (.pointer (some ⟨gB a,oB a+l1.length*9+0,none⟩))) (fun W hk=>load_slA (P:=Tryz.prog) (ty:=56) (m:=9) (cs:=[.int .i64 ukind,.string (str usn),.int .u8 uop,.int .u8 uty,.int .u64 ubits,.string (str uen),.slice uea uek.length uec,.slice uba ubody.length ubc,.slice ula uels.length ulc]) hsl (by kernel_rfl) (by kernel_rfl) l1.length 0 rfl hcell hk) ?_
   refine rk ?_
   cases hp:p (St.mk ukind usn (Ex.mk uop uty ubits uen uek) ubody uels) with
   | true=>
     refine gX [.agg #[.int .i64 ukind,.string (str usn),.int .u8 uop,.int .u8 uty,.int .u64 ubits,.string (str uen),.slice uea uek.length uec,.slice uba ubody.length ubc,.slice ula uels.length ulc],.pointer (some ⟨q,0,none⟩)] (.bool true) (fun W hk=>by have:=hcall W hk;rw [hp] at this;exact this) ?_
     refine rs [] 60 3 ?_
     exact gR (.int .i64 (l1.length:Int)) (fun W hk=>⟨_,rfl,(by rw [hI,List.any_append,List.any_cons,hp,hany,decide_eq_true (by omega)];rfl),hk.below⟩)
   | false=>
     refine gX [.agg #[.int .i64 ukind,.string (str usn),.int .u8 uop,.int .u8 uty,.int .u64 ubits,.string (str uen),.slice uea uek.length uec,.slice uba ubody.length ubc,.slice ula uels.length ulc],.pointer (some ⟨q,0,none⟩)] (.bool false) (fun W hk=>by have:=hcall W hk;rw [hp] at this;exact this) ?_
     refine rs [] 60 1 ?_
     refine gS 8 (x := .int .i64 (wrapF .i64 ((l1.length:Int)+1))) (.int .i64 ((l1++[(St.mk ukind usn (Ex.mk uop uty ubits uen uek) ubody uels)]).length:Nat)) (by rw [wr64 (by omega) (by omega)];congr 1;simp) ?_
     exact gU _ [(0,.v (.slice a n cap)),(1,norm (.func (.func 193) #[] #[.pointer (some ⟨q,0,none⟩)])),(7,.v (.int .i64 (n:Int))),(8,.v (.int .i64 ((l1++[(St.mk ukind usn (Ex.mk uop uty ubits uen uek) ubody uels)]).length:Int)))] [] gz hγ0 (ih (l1++[(St.mk ukind usn (Ex.mk uop uty ubits uen uek) ubody uels)],l3) ⟨by show L=(l1++[_])++l3;rw [hI];simp,by show (l1++[_]).any p=false;rw [List.any_append,hany,List.any_cons,hp];rfl⟩ (by show l3.length<(_::l3).length;simp))
open Go.Sy in
set_option maxRecDepth 100000 in
theorem conSt_any (p:St→Bool) (q:Nat) (L:List (St)) (a:Option Addr) (n cap:Nat) (xs:List Value) (w:World) (hn:n=L.length) (hbd:n≤1000000000000) (hsl:SlAt (·<w.heap.size) w a n 9 xs) (hks:LsAt (StAt (·<w.heap.size) w) L xs) (hf:∀ x∈L,∀ cs W,Sy.Keep (·<w.heap.size) w W→StAt (·<W.heap.size) W x cs→Calls Tryz.prog 193 #[.agg cs.toArray,.pointer (some ⟨q,0,none⟩)] W fun e w'=>e = .returned (.bool (p x))∧Below W.heap.size W w'):
  Calls Tryz.prog 192 #[.slice a n cap,.func (.func 193) #[] #[.pointer (some ⟨q,0,none⟩)]] w fun e w'=>e = .returned (.bool (L.any p))∧Below w.heap.size w w':=by
 refine Sy.enter (vs:=[.slice a n cap,.func (.func 193) #[] #[.pointer (some ⟨q,0,none⟩)]]) sy_fine Tryz.func192 rfl (fun γ=>norms_LR _) rfl (fun γ0 hγ0=>?_)
 refine rk ?_
 refine gN [.slice a n cap,.func (.func 193) #[] #[.pointer (some ⟨q,0,none⟩)]] (fun v=>∃ i:Int,v = .int .i64 i∧L.any p=decide (0≤i)) (fun W hk=>(idxSt_any p q L a n cap xs W hn hbd ((hsl.keep hk).mono fun k h=>Nat.lt_of_lt_of_le h hk.size) (hks.imp fun x c hc=>hc.keep hk (fun k h=>Nat.lt_of_lt_of_le h hk.size)) (fun x hx cs W2 hk2=>hf x hx cs W2 (hk.trans (hk2.mono fun k h=>Nat.lt_of_lt_of_le h hk.size)))).mono fun e w' ⟨i,h1,h2,h3⟩=>⟨_,h1,⟨i,rfl,h2⟩,h3⟩) ?_
 rintro v w2 ⟨i,rfl,hi⟩ hk2
 refine rk ?_
 refine gR (.bool (!(intLt i 0))) (fun W hk=>⟨?_,hk.below⟩)
 rw [hi,intLt_eq]
 by_cases h:0≤i
 · rw [decide_eq_true h,decide_eq_false (by omega)]
   rfl
 · rw [decide_eq_false h,decide_eq_true (by omega)]
   rfl
open Go.Sy in
set_option maxRecDepth 100000 in
theorem idxVr_any (p:Vr→Bool) (L:List (Vr)) (a:Option Addr) (n cap:Nat) (xs:List Value) (w:World) (hn:n=L.length) (hbd:n≤1000000000000) (hsl:SlAt (·<w.heap.size) w a n 3 xs) (hks:LsAt (VrAt) L xs) (hf:∀ x∈L,∀ cs W,Sy.Keep (·<w.heap.size) w W→VrAt x cs→Calls Tryz.prog 115 #[.agg cs.toArray] W fun e w'=>e = .returned (.bool (p x))∧Below W.heap.size W w'):
  Calls Tryz.prog 187 #[.slice a n cap,.func (.func 115) #[] #[]] w fun e w'=>∃ i:Int,e = .returned (.int .i64 i)∧L.any p=decide (0≤i)∧Below w.heap.size w w':=by
 refine Sy.enter (vs:=[.slice a n cap,.func (.func 115) #[] #[]]) sy_fine Tryz.func187 rfl (fun γ=>norms_LR _) rfl (fun γ0 hγ0=>?_)
 refine rk ?_
 refine good_toLp ?_
 refine good_loopI (fun i:List (Vr)×List (Vr)=>i.2.length) (fun i=>L=i.1++i.2∧i.1.any p=false) (fun i=>⟨mkT [(0,.v (.slice a n cap)),(1,norm (.func (.func 115) #[] #[])),(7,.v (.int .i64 (n:Int))),(8,.v (.int .i64 (i.1.length:Int)))],mkH [],gz,[]⟩)
  ([],L) ⟨rfl,rfl⟩ (by kernel_rfl)
  (fun h=>good_sub _ [(0,.v (.slice a n cap)),(1,norm (.func (.func 115) #[] #[])),(7,.v (.int .i64 (n:Int))),(8,.v (.int .i64 (([]:List (Vr)).length:Int)))] [] gz rfl (by kernel_rfl) (by kernel_rfl) (by kernel_rfl) (by kernel_rfl) (by kernel_rfl) hγ0 (by kernel_rfl) h) ?_
 rintro ⟨l1,l2⟩ ⟨hI,hany⟩ ih
 have hI:L=l1++l2:=hI
 have hany:l1.any p=false:=hany
 have hn2:n=l1.length+l2.length:=by rw [hn,hI,List.length_append]
 refine rk ?_
 cases l2 with
 | nil=>
   refine gK false (b:=intLt (l1.length:Int) (n:Int)) (lt_f (by simp at hn2;omega)) ?_
   refine rk ?_
   exact gR (.int .i64 (-1)) (fun W hk=>⟨_,rfl,(by rw [hI,List.append_nil,hany];rfl),hk.below⟩)
 | cons x l3=>
   have hin:l1.length<n:=by rw [hn2,List.length_cons];omega
   have hks2:=hks
   rw [hI] at hks2
   obtain ⟨c,hc,hcell⟩:=LsAt.at_ (k:=3) (fun _ _ h=>h.len) hks2
   have hcall:=fun W (hk:Keep (·<w.heap.size) w W)=>hf x (by rw [hI];simp) c W hk (hc)
   refine gK true (b:=intLt (l1.length:Int) (n:Int)) (lt_t (by omega)) ?_
   refine rk ?_
   refine gV (.pointer (some ⟨gB a,oB a+l1.length*3,none⟩)) (S:=Instr.indexAt 22 (.slice a n cap) (.int .i64 (l1.length:Int))) (fun W _=>idx_sl (e:=67) hsl (by kernel_rfl) (by kernel_rfl) hin W) ?_
   refine rk ?_
   obtain ⟨uname,uty,ubits⟩:=x
   obtain rfl:c=[.string (str uname),.int .u8 uty,.int .u64 ubits]:=hc
   refine gV (.agg #[.string (str uname),.int .u8 uty,.int .u64 ubits]) (S:=Instr.loadAt 67 (.pointer (some ⟨gB a,oB a+l1.length*3+0,none⟩))) (fun W hk=>load_slA (P:=Tryz.prog) (ty:=67) (m:=3) (cs:=[.string (str uname),.int .u8 uty,.int .u64 ubits]) hsl (by kernel_rfl) (by kernel_rfl) l1.length 0 rfl hcell hk) ?_
   refine rk ?_
   cases hp:p (Vr.mk uname uty ubits) with
   | true=>
     refine gX [.agg #[.string (str uname),.int .u8 uty,.int .u64 ubits]] (.bool true) (fun W hk=>by have:=hcall W hk;rw [hp] at this;exact this) ?_
     refine rs [] 60 3 ?_
     exact gR (.int .i64 (l1.length:Int)) (fun W hk=>⟨_,rfl,(by rw [hI,List.any_append,List.any_cons,hp,hany,decide_eq_true (by omega)];rfl),hk.below⟩)
   | false=>
     refine gX [.agg #[.string (str uname),.int .u8 uty,.int .u64 ubits]] (.bool false) (fun W hk=>by have:=hcall W hk;rw [hp] at this;exact this) ?_
     refine rs [] 60 1 ?_
     refine gS 8 (x := .int .i64 (wrapF .i64 ((l1.length:Int)+1))) (.int .i64 ((l1++[(Vr.mk uname uty ubits)]).length:Nat)) (by rw [wr64 (by omega) (by omega)];congr 1;simp) ?_
     exact gU _ [(0,.v (.slice a n cap)),(1,norm (.func (.func 115) #[] #[])),(7,.v (.int .i64 (n:Int))),(8,.v (.int .i64 ((l1++[(Vr.mk uname uty ubits)]).length:Int)))] [] gz hγ0 (ih (l1++[(Vr.mk uname uty ubits)],l3) ⟨by show L=(l1++[_])++l3;rw [hI];simp,by show (l1++[_]).any p=false;rw [List.any_append,hany,List.any_cons,hp];rfl⟩ (by show l3.length<(_::l3).length;simp))
open Go.Sy in
set_option maxRecDepth 100000 in
theorem conVr_any (p:Vr→Bool) (L:List (Vr)) (a:Option Addr) (n cap:Nat) (xs:List Value) (w:World) (hn:n=L.length) (hbd:n≤1000000000000) (hsl:SlAt (·<w.heap.size) w a n 3 xs) (hks:LsAt (VrAt) L xs) (hf:∀ x∈L,∀ cs W,Sy.Keep (·<w.heap.size) w W→VrAt x cs→Calls Tryz.prog 115 #[.agg cs.toArray] W fun e w'=>e = .returned (.bool (p x))∧Below W.heap.size W w'):
  Calls Tryz.prog 117 #[.slice a n cap,.func (.func 115) #[] #[]] w fun e w'=>e = .returned (.bool (L.any p))∧Below w.heap.size w w':=by
 refine Sy.enter (vs:=[.slice a n cap,.func (.func 115) #[] #[]]) sy_fine Tryz.func117 rfl (fun γ=>norms_LR _) rfl (fun γ0 hγ0=>?_)
 refine rk ?_
 refine gN [.slice a n cap,.func (.func 115) #[] #[]] (fun v=>∃ i:Int,v = .int .i64 i∧L.any p=decide (0≤i)) (fun W hk=>(idxVr_any p L a n cap xs W hn hbd ((hsl.keep hk).mono fun k h=>Nat.lt_of_lt_of_le h hk.size) (hks.imp fun x c hc=>hc) (fun x hx cs W2 hk2=>hf x hx cs W2 (hk.trans (hk2.mono fun k h=>Nat.lt_of_lt_of_le h hk.size)))).mono fun e w' ⟨i,h1,h2,h3⟩=>⟨_,h1,⟨i,rfl,h2⟩,h3⟩) ?_
 rintro v w2 ⟨i,rfl,hi⟩ hk2
 refine rk ?_
 refine gR (.bool (!(intLt i 0))) (fun W hk=>⟨?_,hk.below⟩)
 rw [hi,intLt_eq]
 by_cases h:0≤i
 · rw [decide_eq_true h,decide_eq_false (by omega)]
   rfl
 · rw [decide_eq_false h,decide_eq_true (by omega)]
   rfl
open Go.Sy in
set_option maxRecDepth 100000 in
theorem idxTx_any (p:List UInt8→Bool) (L:List (List UInt8)) (a:Option Addr) (n cap:Nat) (xs:List Value) (w:World) (hn:n=L.length) (hbd:n≤1000000000000) (hsl:SlAt (·<w.heap.size) w a n 1 xs) (hks:LsAt (TxAt) L xs) (hf:∀ x∈L,∀ cs W,Sy.Keep (·<w.heap.size) w W→TxAt x cs→Calls Tryz.prog 119 (cs.toArray) W fun e w'=>e = .returned (.bool (p x))∧Below W.heap.size W w'):
  Calls Tryz.prog 188 #[.slice a n cap,.func (.func 119) #[] #[]] w fun e w'=>∃ i:Int,e = .returned (.int .i64 i)∧L.any p=decide (0≤i)∧Below w.heap.size w w':=by
 refine Sy.enter (vs:=[.slice a n cap,.func (.func 119) #[] #[]]) sy_fine Tryz.func188 rfl (fun γ=>norms_LR _) rfl (fun γ0 hγ0=>?_)
 refine rk ?_
 refine good_toLp ?_
 refine good_loopI (fun i:List (List UInt8)×List (List UInt8)=>i.2.length) (fun i=>L=i.1++i.2∧i.1.any p=false) (fun i=>⟨mkT [(0,.v (.slice a n cap)),(1,norm (.func (.func 119) #[] #[])),(7,.v (.int .i64 (n:Int))),(8,.v (.int .i64 (i.1.length:Int)))],mkH [],gz,[]⟩)
  ([],L) ⟨rfl,rfl⟩ (by kernel_rfl)
  (fun h=>good_sub _ [(0,.v (.slice a n cap)),(1,norm (.func (.func 119) #[] #[])),(7,.v (.int .i64 (n:Int))),(8,.v (.int .i64 (([]:List (List UInt8)).length:Int)))] [] gz rfl (by kernel_rfl) (by kernel_rfl) (by kernel_rfl) (by kernel_rfl) (by kernel_rfl) hγ0 (by kernel_rfl) h) ?_
 rintro ⟨l1,l2⟩ ⟨hI,hany⟩ ih
 have hI:L=l1++l2:=hI
 have hany:l1.any p=false:=hany
 have hn2:n=l1.length+l2.length:=by rw [hn,hI,List.length_append]
 refine rk ?_
 cases l2 with
 | nil=>
   refine gK false (b:=intLt (l1.length:Int) (n:Int)) (lt_f (by simp at hn2;omega)) ?_
   refine rk ?_
   exact gR (.int .i64 (-1)) (fun W hk=>⟨_,rfl,(by rw [hI,List.append_nil,hany];rfl),hk.below⟩)
 | cons x l3=>
   have hin:l1.length<n:=by rw [hn2,List.length_cons];omega
   have hks2:=hks
   rw [hI] at hks2
   obtain ⟨c,hc,hcell⟩:=LsAt.at_ (k:=1) (fun _ _ h=>h.len) hks2
   have hcall:=fun W (hk:Keep (·<w.heap.size) w W)=>hf x (by rw [hI];simp) c W hk (hc)
   refine gK true (b:=intLt (l1.length:Int) (n:Int)) (lt_t (by omega)) ?_
   refine rk ?_
   refine gV (.pointer (some ⟨gB a,oB a+l1.length*1,none⟩)) (S:=Instr.indexAt 23 (.slice a n cap) (.int .i64 (l1.length:Int))) (fun W _=>idx_sl (e:=9) hsl (by kernel_rfl) (by kernel_rfl) hin W) ?_
   refine rk ?_
   obtain rfl:c=[.string (str x)]:=hc
   refine gV (.string (str x)) (S:=Instr.loadAt 9 (.pointer (some ⟨gB a,oB a+l1.length*1+0,none⟩))) (fun W hk=>load_sl hsl (by kernel_rfl) l1.length 0 (hcell 0 _ rfl) hk) ?_
   refine rk ?_
   cases hp:p x with
   | true=>
     refine gX [.string (str x)] (.bool true) (fun W hk=>by have:=hcall W hk;rw [hp] at this;exact this) ?_
     refine rs [] 60 3 ?_
     exact gR (.int .i64 (l1.length:Int)) (fun W hk=>⟨_,rfl,(by rw [hI,List.any_append,List.any_cons,hp,hany,decide_eq_true (by omega)];rfl),hk.below⟩)
   | false=>
     refine gX [.string (str x)] (.bool false) (fun W hk=>by have:=hcall W hk;rw [hp] at this;exact this) ?_
     refine rs [] 60 1 ?_
     refine gS 8 (x := .int .i64 (wrapF .i64 ((l1.length:Int)+1))) (.int .i64 ((l1++[x]).length:Nat)) (by rw [wr64 (by omega) (by omega)];congr 1;simp) ?_
     exact gU _ [(0,.v (.slice a n cap)),(1,norm (.func (.func 119) #[] #[])),(7,.v (.int .i64 (n:Int))),(8,.v (.int .i64 ((l1++[x]).length:Int)))] [] gz hγ0 (ih (l1++[x],l3) ⟨by show L=(l1++[_])++l3;rw [hI];simp,by show (l1++[_]).any p=false;rw [List.any_append,hany,List.any_cons,hp];rfl⟩ (by show l3.length<(_::l3).length;simp))
open Go.Sy in
set_option maxRecDepth 100000 in
theorem conTx_any (p:List UInt8→Bool) (L:List (List UInt8)) (a:Option Addr) (n cap:Nat) (xs:List Value) (w:World) (hn:n=L.length) (hbd:n≤1000000000000) (hsl:SlAt (·<w.heap.size) w a n 1 xs) (hks:LsAt (TxAt) L xs) (hf:∀ x∈L,∀ cs W,Sy.Keep (·<w.heap.size) w W→TxAt x cs→Calls Tryz.prog 119 (cs.toArray) W fun e w'=>e = .returned (.bool (p x))∧Below W.heap.size W w'):
  Calls Tryz.prog 118 #[.slice a n cap,.func (.func 119) #[] #[]] w fun e w'=>e = .returned (.bool (L.any p))∧Below w.heap.size w w':=by
 refine Sy.enter (vs:=[.slice a n cap,.func (.func 119) #[] #[]]) sy_fine Tryz.func118 rfl (fun γ=>norms_LR _) rfl (fun γ0 hγ0=>?_)
 refine rk ?_
 refine gN [.slice a n cap,.func (.func 119) #[] #[]] (fun v=>∃ i:Int,v = .int .i64 i∧L.any p=decide (0≤i)) (fun W hk=>(idxTx_any p L a n cap xs W hn hbd ((hsl.keep hk).mono fun k h=>Nat.lt_of_lt_of_le h hk.size) (hks.imp fun x c hc=>hc) (fun x hx cs W2 hk2=>hf x hx cs W2 (hk.trans (hk2.mono fun k h=>Nat.lt_of_lt_of_le h hk.size)))).mono fun e w' ⟨i,h1,h2,h3⟩=>⟨_,h1,⟨i,rfl,h2⟩,h3⟩) ?_
 rintro v w2 ⟨i,rfl,hi⟩ hk2
 refine rk ?_
 refine gR (.bool (!(intLt i 0))) (fun W hk=>⟨?_,hk.below⟩)
 rw [hi,intLt_eq]
 by_cases h:0≤i
 · rw [decide_eq_true h,decide_eq_false (by omega)]
   rfl
 · rw [decide_eq_false h,decide_eq_true (by omega)]
   rfl
open Go.Sy in
set_option maxRecDepth 100000 in
theorem idxTh_any (p:Th→Bool) (q:Nat) (L:List (Th)) (a:Option Addr) (n cap:Nat) (xs:List Value) (w:World) (hn:n=L.length) (hbd:n≤1000000000000) (hsl:SlAt (·<w.heap.size) w a n 3 xs) (hks:LsAt (ThAt (·<w.heap.size) w) L xs) (hf:∀ x∈L,∀ cs W,Sy.Keep (·<w.heap.size) w W→ThAt (·<W.heap.size) W x cs→Calls Tryz.prog 122 #[.agg cs.toArray,.pointer (some ⟨q,0,none⟩)] W fun e w'=>e = .returned (.bool (p x))∧Below W.heap.size W w'):
  Calls Tryz.prog 191 #[.slice a n cap,.func (.func 122) #[] #[.pointer (some ⟨q,0,none⟩)]] w fun e w'=>∃ i:Int,e = .returned (.int .i64 i)∧L.any p=decide (0≤i)∧Below w.heap.size w w':=by
 refine Sy.enter (vs:=[.slice a n cap,.func (.func 122) #[] #[.pointer (some ⟨q,0,none⟩)]]) sy_fine Tryz.func191 rfl (fun γ=>norms_LR _) rfl (fun γ0 hγ0=>?_)
 refine rk ?_
 refine good_toLp ?_
 refine good_loopI (fun i:List (Th)×List (Th)=>i.2.length) (fun i=>L=i.1++i.2∧i.1.any p=false) (fun i=>⟨mkT [(0,.v (.slice a n cap)),(1,norm (.func (.func 122) #[] #[.pointer (some ⟨q,0,none⟩)])),(7,.v (.int .i64 (n:Int))),(8,.v (.int .i64 (i.1.length:Int)))],mkH [],gz,[]⟩)
  ([],L) ⟨rfl,rfl⟩ (by kernel_rfl)
  (fun h=>good_sub _ [(0,.v (.slice a n cap)),(1,norm (.func (.func 122) #[] #[.pointer (some ⟨q,0,none⟩)])),(7,.v (.int .i64 (n:Int))),(8,.v (.int .i64 (([]:List (Th)).length:Int)))] [] gz rfl (by kernel_rfl) (by kernel_rfl) (by kernel_rfl) (by kernel_rfl) (by kernel_rfl) hγ0 (by kernel_rfl) h) ?_
 rintro ⟨l1,l2⟩ ⟨hI,hany⟩ ih
 have hI:L=l1++l2:=hI
 have hany:l1.any p=false:=hany
 have hn2:n=l1.length+l2.length:=by rw [hn,hI,List.length_append]
 refine rk ?_
 cases l2 with
 | nil=>
   refine gK false (b:=intLt (l1.length:Int) (n:Int)) (lt_f (by simp at hn2;omega)) ?_
   refine rk ?_
   exact gR (.int .i64 (-1)) (fun W hk=>⟨_,rfl,(by rw [hI,List.append_nil,hany];rfl),hk.below⟩)
 | cons x l3=>
   have hin:l1.length<n:=by rw [hn2,List.length_cons];omega
   have hks2:=hks
   rw [hI] at hks2
   obtain ⟨c,hc,hcell⟩:=LsAt.at_ (k:=3) (fun _ _ h=>h.len) hks2
   have hcall:=fun W (hk:Keep (·<w.heap.size) w W)=>hf x (by rw [hI];simp) c W hk (hc.keep hk (fun k h=>Nat.lt_of_lt_of_le h hk.size))
   refine gK true (b:=intLt (l1.length:Int) (n:Int)) (lt_t (by omega)) ?_
   refine rk ?_
   refine gV (.pointer (some ⟨gB a,oB a+l1.length*3,none⟩)) (S:=Instr.indexAt 24 (.slice a n cap) (.int .i64 (l1.length:Int))) (fun W _=>idx_sl (e:=58) hsl (by kernel_rfl) (by kernel_rfl) hin W) ?_
   refine rk ?_
   obtain ⟨uname,uloc,ubody⟩:=x
   obtain ⟨ua,ucap,uxs,ub,ucap2,uys,rfl,_⟩:=hc
   refine gV (.agg #[.string (str uname),.slice ua uloc.length ucap,.slice ub ubody.length ucap2]) (S:=Instr.loadAt 58 (.pointer (some ⟨gB a,oB a+l1.length*3+0,none⟩))) (fun W hk=>load_slA (P:=Tryz.prog) (ty:=58) (m:=3) (cs:=[.string (str uname),.slice ua uloc.length ucap,.slice ub ubody.length ucap2]) hsl (by kernel_rfl) (by kernel_rfl) l1.length 0 rfl hcell hk) ?_
   refine rk ?_
   cases hp:p (Th.mk uname uloc ubody) with
   | true=>
     refine gX [.agg #[.string (str uname),.slice ua uloc.length ucap,.slice ub ubody.length ucap2],.pointer (some ⟨q,0,none⟩)] (.bool true) (fun W hk=>by have:=hcall W hk;rw [hp] at this;exact this) ?_
     refine rs [] 60 3 ?_
     exact gR (.int .i64 (l1.length:Int)) (fun W hk=>⟨_,rfl,(by rw [hI,List.any_append,List.any_cons,hp,hany,decide_eq_true (by omega)];rfl),hk.below⟩)
   | false=>
     refine gX [.agg #[.string (str uname),.slice ua uloc.length ucap,.slice ub ubody.length ucap2],.pointer (some ⟨q,0,none⟩)] (.bool false) (fun W hk=>by have:=hcall W hk;rw [hp] at this;exact this) ?_
     refine rs [] 60 1 ?_
     refine gS 8 (x := .int .i64 (wrapF .i64 ((l1.length:Int)+1))) (.int .i64 ((l1++[(Th.mk uname uloc ubody)]).length:Nat)) (by rw [wr64 (by omega) (by omega)];congr 1;simp) ?_
     exact gU _ [(0,.v (.slice a n cap)),(1,norm (.func (.func 122) #[] #[.pointer (some ⟨q,0,none⟩)])),(7,.v (.int .i64 (n:Int))),(8,.v (.int .i64 ((l1++[(Th.mk uname uloc ubody)]).length:Int)))] [] gz hγ0 (ih (l1++[(Th.mk uname uloc ubody)],l3) ⟨by show L=(l1++[_])++l3;rw [hI];simp,by show (l1++[_]).any p=false;rw [List.any_append,hany,List.any_cons,hp];rfl⟩ (by show l3.length<(_::l3).length;simp))
open Go.Sy in
set_option maxRecDepth 100000 in
theorem conTh_any (p:Th→Bool) (q:Nat) (L:List (Th)) (a:Option Addr) (n cap:Nat) (xs:List Value) (w:World) (hn:n=L.length) (hbd:n≤1000000000000) (hsl:SlAt (·<w.heap.size) w a n 3 xs) (hks:LsAt (ThAt (·<w.heap.size) w) L xs) (hf:∀ x∈L,∀ cs W,Sy.Keep (·<w.heap.size) w W→ThAt (·<W.heap.size) W x cs→Calls Tryz.prog 122 #[.agg cs.toArray,.pointer (some ⟨q,0,none⟩)] W fun e w'=>e = .returned (.bool (p x))∧Below W.heap.size W w'):
  Calls Tryz.prog 121 #[.slice a n cap,.func (.func 122) #[] #[.pointer (some ⟨q,0,none⟩)]] w fun e w'=>e = .returned (.bool (L.any p))∧Below w.heap.size w w':=by
 refine Sy.enter (vs:=[.slice a n cap,.func (.func 122) #[] #[.pointer (some ⟨q,0,none⟩)]]) sy_fine Tryz.func121 rfl (fun γ=>norms_LR _) rfl (fun γ0 hγ0=>?_)
 refine rk ?_
 refine gN [.slice a n cap,.func (.func 122) #[] #[.pointer (some ⟨q,0,none⟩)]] (fun v=>∃ i:Int,v = .int .i64 i∧L.any p=decide (0≤i)) (fun W hk=>(idxTh_any p q L a n cap xs W hn hbd ((hsl.keep hk).mono fun k h=>Nat.lt_of_lt_of_le h hk.size) (hks.imp fun x c hc=>hc.keep hk (fun k h=>Nat.lt_of_lt_of_le h hk.size)) (fun x hx cs W2 hk2=>hf x hx cs W2 (hk.trans (hk2.mono fun k h=>Nat.lt_of_lt_of_le h hk.size)))).mono fun e w' ⟨i,h1,h2,h3⟩=>⟨_,h1,⟨i,rfl,h2⟩,h3⟩) ?_
 rintro v w2 ⟨i,rfl,hi⟩ hk2
 refine rk ?_
 refine gR (.bool (!(intLt i 0))) (fun W hk=>⟨?_,hk.below⟩)
 rw [hi,intLt_eq]
 by_cases h:0≤i
 · rw [decide_eq_true h,decide_eq_false (by omega)]
   rfl
 · rw [decide_eq_false h,decide_eq_true (by omega)]
   rfl
end Go.Proofs.YtiacalnkmnckjaaGreatDoor
end
section
namespace Go.Proofs.YtiacalnkmnckjaaGreatDoor
open Go.RowKit Go.As
theorem ex32_some (e:Ex):(ex32 e).isSome=okE 32 e:=by
 unfold ex32 okE
 by_cases h:hgt e≤32
 · rw [if_pos h,decide_eq_true h,Bool.true_and]
 · rw [if_neg h,decide_eq_false h]
   rfl
noncomputable def okS (deep:Nat) (s:St):Bool:=(stT deep s).isSome
noncomputable def okB (deep:Nat) (l:List St):Bool:=(stsT deep l).isSome
theorem okB_any (deep:Nat) (h:deep≤32):∀ (l:List St),okB deep l=!(l.any fun s=>!(okS deep s))
 | []=>rfl
 | s::l=>by
   have ih:=okB_any deep h l
   unfold okB okS at *
   simp only [stsT,List.any_cons]
   rw [if_neg (by omega)]
   cases stT deep s with
   | none=>rfl
   | some t=>
     cases hx:stsT deep l with
     | none=>rw [hx] at ih;simp at ih ⊢;exact ih
     | some ts=>rw [hx] at ih;simp at ih ⊢;exact ih
theorem okB_deep (deep:Nat) (h:32<deep) (l:List St):okB deep l=decide (l.length=0):=by
 cases l with
 | nil=>rfl
 | cons s l=>unfold okB;simp only [stsT];rw [if_pos h];rfl
theorem okS_mk (deep:Nat) (k:Int) (name:List UInt8) (e:Ex) (body els:List St) (hk:1≤k∧k≤7):
  okS deep (.mk k name e body els)=((if k=1∨k=2∨k=3 then nameB name else Sy.bEqL name [])&&((if k=1∨k=4∨k=5∨k=6 then okE 32 e else exNone e)&&((decide (k=5) || decide (els.length=0))&&((decide (k=5∨k=6) || decide (body.length=0))&&(okB (deep+1) body&&okB (deep+1) els))))):=by
 have hbody:body.length=0→okB (deep+1) body=true:=fun h=>by rw [List.eq_nil_of_length_eq_zero h];rfl
 have hels:els.length=0→okB (deep+1) els=true:=fun h=>by rw [List.eq_nil_of_length_eq_zero h];rfl
 rw [← ex32_some]
 have hnm:Sy.bEqL name []=decide (name=[]):=by
  rw [Bool.eq_iff_iff,bEq_nil]
  simp
 rw [hnm]
 have h7:k=1∨k=2∨k=3∨k=4∨k=7∨k=5∨k=6:=by omega
 rcases h7 with rfl | rfl | rfl | rfl | rfl | rfl | rfl
 case inr.inr.inr.inr.inr.inl=>
  unfold okS okB
  simp only [stT]
  cases hB:stsT (deep+1) body <;> cases hL:stsT (deep+1) els <;> cases hx:ex32 e <;> by_cases hn:name=[] <;> by_cases h2:els.length=0 <;> simp [*]
  all_goals (first | omega | (split <;> rfl))
 case inr.inr.inr.inr.inr.inr=>
  unfold okS okB
  simp only [stT]
  cases hB:stsT (deep+1) body <;> cases hL:stsT (deep+1) els <;> cases hx:ex32 e <;> by_cases hn:name=[] <;> by_cases h2:els.length=0 <;> simp [*]
  all_goals (first | omega | (split <;> rfl))
 all_goals
  unfold okS
  simp only [stT]
  by_cases h1:body.length=0
  · have hb':=hbody h1
    by_cases h2:els.length=0
    · have he':=hels h2
      cases hn:nameB name <;> cases hx:ex32 e <;> by_cases hm:name=[] <;> cases hq:exNone e <;> simp [*]
    · simp [h2]
  · simp [h1]
theorem zeroB (ty bits:Int):vEq ty bits 0 0=decide (ty=0∧bits=0):=by
 unfold vEq
 rw [Sy.intEq_eq,Sy.intEq_eq]
 by_cases h1:ty=0 <;> by_cases h2:bits=0 <;> simp [h1,h2]
open Go.Sy in
set_option maxRecDepth 100000 in
theorem plain_any (uop uty ubits:Int) (uen:List UInt8) (uek:List Ex) (uea:Option Addr) (uec:Nat) (w:World):Calls Tryz.prog 224 #[.agg #[.int .u8 uop,.int .u8 uty,.int .u64 ubits,.string (str uen),.slice uea uek.length uec]] w fun e w'=>e = .returned (.bool (exNone (Ex.mk uop uty ubits uen uek)))∧Below w.heap.size w w':=by
 refine Sy.enter (vs:=[.agg #[.int .u8 uop,.int .u8 uty,.int .u64 ubits,.string (str uen),.slice uea uek.length uec]]) sy_fine Tryz.func224 rfl (fun γ=>norms_LR _) rfl (fun γ0 hγ0=>?_)
 refine rs [7] 60 0 ?_
 by_cases h1:uop=0
 rotate_left
 ·
  refine gF 5 uop 0 h1 ?_
  refine gF 6 uop 0 h1 ?_
  refine rs [] 60 3 ?_
  refine gR (.bool false) (fun W hk=>⟨?_,hk.below⟩)
  simp [exNone,h1]
 refine gT 5 uop 0 h1 ?_
 refine gT 6 uop 0 h1 ?_
 refine rk ?_
 have hv:=zeroB uty ubits
 cases h2:vEq uty ubits 0 0 with
 | false=>
   rw [h2] at hv
   refine gX [.agg #[.int .u8 uty,.int .u64 ubits]] (.bool false) (fun W hk=>by rw [← h2];exact zero_any _ _ W) ?_
   refine rs [] 60 3 ?_
   refine gR (.bool false) (fun W hk=>⟨?_,hk.below⟩)
   have hx:exNone (Ex.mk uop uty ubits uen uek)=false:=by
    simp only [exNone,decide_eq_false_iff_not]
    rintro ⟨_,h3,h4,_⟩
    exact of_decide_eq_false hv.symm ⟨h3,h4⟩
   rw [hx]
 | true=>
   rw [h2] at hv
   obtain ⟨hv1,hv2⟩:=of_decide_eq_true hv.symm
   refine gX [.agg #[.int .u8 uty,.int .u64 ubits]] (.bool true) (fun W hk=>by rw [← h2];exact zero_any _ _ W) ?_
   refine rs [17] 60 0 ?_
   by_cases h3:uen=[]
   rotate_left
   ·
    refine gS 14 (x := .bool (bEqL uen [])) (.bool false) (by rw [bEqL_eq];simp [h3]) ?_
    refine gS 15 (x := .bool (bEqL uen [])) (.bool false) (by rw [bEqL_eq];simp [h3]) ?_
    refine gS 16 (x := .bool (bEqL uen [])) (.bool false) (by rw [bEqL_eq];simp [h3]) ?_
    refine rs [] 60 3 ?_
    refine gR (.bool false) (fun W hk=>⟨?_,hk.below⟩)
    simp [exNone,h3]
   refine gS 14 (x := .bool (bEqL uen [])) (.bool true) (by rw [bEqL_eq];simp [h3]) ?_
   refine gS 15 (x := .bool (bEqL uen [])) (.bool true) (by rw [bEqL_eq];simp [h3]) ?_
   refine gS 16 (x := .bool (bEqL uen [])) (.bool true) (by rw [bEqL_eq];simp [h3]) ?_
   refine rk ?_
   refine gR (.bool (intEq (uek.length:Int) 0)) (fun W hk=>⟨?_,hk.below⟩)
   rw [intEq_eq]
   simp [exNone,h1,hv1,hv2,h3]
end Go.Proofs.YtiacalnkmnckjaaGreatDoor
end
