/- Texts of this proof, one behind the other. Conditions: those in each theorem. -/
import Derived.Test.YtiacalnkmnckjaaGreatDoorCnQ7
import Derived.Test.YtiacalnkmnckjaaGreatDoorCnQ1
import Derived.Test.YtiacalnkmnckjaaGreatDoorCnQ3
import Derived.Test.YtiacalnkmnckjaaGreatDoorCnQ4
import Derived.Test.YtiacalnkmnckjaaGreatDoorCnQ5
import Derived.Test.YtiacalnkmnckjaaGreatDoorCnQ6
set_option linter.unusedVariables false
set_option linter.unusedSimpArgs false
section
noncomputable section
namespace Go.Sy
open Go Go.RowKit
def mapB:Option Blk→Bool
 | some (.map [] 0)=>true
 | _=>false
def hdMapU (P:Program) (nt:Nat) (g:Cfg):Option (TypeId×AV×AV×AV):=match hdOp P nt g with
 | none=>none
 | some o=>match o.op with
   | .mapUpdate t m k v=>match aev P g.s.T m,aev P g.s.T k,aev P g.s.T v with
     | some a,some b,some c=>some (t,a,b,c)
     | _,_,_=>none
   | _=>none
section
variable {P:Program} {I:Aux} {B:Nat→Prop} {w0:World} {γ0:Gm} {nt:Nat} {Q:Exit→Act→World→Prop} {g:Cfg}
theorem good_giveMp (t b:Nat) (h:g.s.T.get t=some (.map b)) (hb:mapB (g.s.h.get b)=true)
  (hg:∀ k w1 B1,Keep B w0 w1→(∀ j,B j→B1 j)→B1 k→¬ B k→(∀ j,B1 j→j<w1.heap.size)→w1.heap[k]?=some (.map #[] 0)→
   Good P B1 w1 γ0 nt Q ⟨g.k,⟨g.s.T.put t (some (.v (.map (some k)))),g.s.h.put b none,g.s.c,g.s.ds⟩⟩):Good P B w0 γ0 nt Q g:=by
 have hb1:g.s.h.get b=some (.map [] 0):=by
  unfold mapB at hb
  split at hb <;> first | (cases hb;done) | skip
  assumption
 refine ⟨fun γ a w hle hf hr hk=>?_⟩
 obtain ⟨p,hp,hbr⟩:=hr.live b _ hb1
 obtain ⟨h0,l,h1,h2⟩:=hbr
 obtain ⟨v,hv1,hv2⟩:=hf.tmps _ _ h
 obtain ⟨n,N,rfl,hγ⟩:∃ n N,v = .map (some n)∧γ b=some (n,N):=by
  cases hv2 with
  | map h=>exact ⟨_,_,rfl,h⟩
 rw [hγ] at hp
 injection hp with hp
 subst hp
 have hl:l=#[]:=by
  have:=h2.1
  apply Array.ext'
  exact List.eq_nil_of_length_eq_zero (by simpa using this.symm)
 subst hl
 have hnB:=h0
 have hlt:n<w.heap.size:=(Array.getElem?_eq_some_iff.1 h1).1
 refine (hg n w (fun j=>B j∨j=n) hk (fun j => .inl) (.inr rfl) hnB (fun j hj=>hj.elim (fun h=>hr.base j h) (fun e=>by subst e;exact hlt)) h1).out γ a w hle ⟨hf.size,fun t' av ht=>?_,hf.defs⟩ ⟨fun b2 blk2 hb2=>?_,fun b2 b3 blk2 blk3 p2 p3 h5 h6 g1 g2 e=>?_,hr.fresh,hr.glob,fun j hj=>hj.elim (fun h=>hr.base j h) (fun e=>by subst e;exact hlt)⟩ (Keep.refl _ _)
 · simp only at ht
   rw [Tr.get_put] at ht
   split at ht
   · rename_i e
     subst e
     injection ht with ht
     subst ht
     exact ⟨_,hv1,.v _⟩
   · exact hf.tmps t' av ht
 · simp only at hb2
   rw [Tr.get_put] at hb2
   split at hb2
   · cases hb2
   rename_i hne
   obtain ⟨q,hq,hbr2⟩:=hr.live b2 blk2 hb2
   have hne2:q.1≠n:=fun e=>hne (hr.inj _ _ _ _ _ _ hb2 hb1 hq hγ e)
   have key:¬ B q.1→¬ (B q.1∨q.1=n):=fun h1 h2=>h2.elim h1 hne2
   refine ⟨q,hq,?_⟩
   cases blk2 with
   | cells ty own cl ex lim cs=>exact ⟨fun e=>key (hbr2.1 e),hbr2.2⟩
   | map es clock=>exact ⟨key hbr2.1,hbr2.2⟩
   | row e xs=>exact ⟨key hbr2.1,hbr2.2⟩
 · simp only at h5 h6
   rw [Tr.get_put] at h5 h6
   split at h5
   · cases h5
   split at h6
   · cases h6
   exact hr.inj _ _ _ _ _ _ h5 h6 g1 g2 e
theorem good_mapW (t:TypeId) (x z y:Value) {ay:AV} (F:Nat→Prop) {Pr:World→World→Prop} (h:hdMapU P nt g=some (t,.v x,.v z,ay)) (hy:closeT ay=some y) (hown:trAll blkOwned g.s.h=true) (hFB:∀ k,F k→B k)
  (hc:∀ w,Keep B w0 w→∃ w',(Instr.mapUpdate t x z y).run P w = .ok () w'∧Pr w w'∧Keep (fun k=>k<w.heap.size∧¬ F k) w w')
  (hg:∀ w w' B',Keep B w0 w→Pr w w'→Keep (fun k=>k<w.heap.size∧¬ F k) w w'→Keep (fun k=>B k∧¬ F k) w0 w'→(∀ k,B k→B' k)→(∀ k,B' k→k<w'.heap.size)→Good P B' w' γ0 nt Q (nx0 g (norm undef))):Good P B w0 γ0 nt Q g:=by
 have hg:∀ w r w' B',Keep B w0 w→r=undef∧Pr w w'→Keep (fun k=>k<w.heap.size∧¬ F k) w w'→Keep (fun k=>B k∧¬ F k) w0 w'→(∀ k,B k→B' k)→(∀ k,w.heap.size≤k→k<w'.heap.size→B' k)→(∀ k,B' k→k<w'.heap.size)→Good P B' w' γ0 nt Q (nx0 g (norm r)):=
  fun w r w' B' h1 h2 h3 h4 h5 _ h7=>by rw [h2.1];exact hg w w' B' h1 h2.2 h3 h4 h5 h7
 unfold hdMapU at h
 split at h
 · cases h
 rename_i o ho
 split at h <;> first | (cases h;done) | skip
 rename_i t' x1 z1 y1 hop
 split at h <;> first | (cases h;done) | skip
 rename_i aS aZ aX hs hz hx
 injection h with h
 injection h with e1 h
 injection h with e2 h
 injection h with e3 e4
 subst e1 e2 e3 e4
 refine good_opA ho (fun γ a w K QQ hle hf hr hb hdst hdlt hK=>?_)
 have hok:=hf.ok (P:=P) (B:=B) (G:=0) hr.glob o.op.operands.toList
 have hmem:o.op.operands.toList=[x1,z1,y1]:=by rw [hop];simp [Op.operands]
 have hs':=hok x1 (by simp [hmem]) _ hs
 have hz':=hok z1 (by simp [hmem]) _ hz
 have ez:a.eval z1=z:=by generalize a.eval z1=q at hz';cases hz';rfl
 have hx':=hok y1 (by simp [hmem]) _ hx
 have es:a.eval x1=x:=by generalize a.eval x1=q at hs';cases hs';rfl
 have ex:a.eval y1=y:=closeT_eq hy hx'
 obtain ⟨w',hrun,h1',h2⟩:=hc w hb
 obtain ⟨r,hr0⟩:∃ r,r=undef:=⟨_,rfl⟩
 have h1:r=undef∧Pr w w':=⟨hr0,h1'⟩
 have hopr:(execOp a.eval o).run P w = .ok .skip w':=by
  unfold execOp
  simp only [hop,es,ez,ex,Sem.run_bind,Sem.run_pure,Result.andThen_ok,hrun]
 refine wp_skip' hopr ?_
 rw [← hr0]
 have hk:Keep (fun k=>B k∧¬ F k) w0 w':=(hb.mono fun k h=>h.1).trans (h2.mono fun k h=>⟨hr.base k h.1,h.2⟩)
 have hnF:∀ b blk p,g.s.h.get b=some blk→γ b=some p→¬ F p.1:=fun b blk p hb1 hp hFp=>by
  obtain ⟨q,hq,hbr⟩:=hr.live b blk hb1
  rw [hp] at hq
  injection hq with hq
  subst hq
  exact blkOwned_ok (trAll_get hown _ _ hb1) hbr (hFB _ hFp)
 have hr':HR B P.globals.size γ g.s.h g.s.c w':=⟨fun b blk hb1=>by
  obtain ⟨p,hp,hbr⟩:=hr.live b blk hb1
  exact ⟨p,hp,hbr.kept (h2.block _ ⟨hbr.lt,hnF b blk p hb1 hp⟩)⟩,hr.inj,hr.fresh,hr.glob,fun k h=>Nat.lt_of_lt_of_le (hr.base k h) h2.size⟩
 refine hK _ _ ?_
 have hlt:∀ {b blk k N},g.s.h.get b=some blk→γ b=some (k,N)→k<w.heap.size:=by
  intro b blk k N hb1 hγ
  obtain ⟨p,hp,hbr⟩:=hr.live b blk hb1
  rw [hγ] at hp
  injection hp with hp
  subst hp
  exact hbr.lt
 have hg':=hg w r w' (fun k=>B k∨(k<w'.heap.size∧∀ b blk N,g.s.h.get b=some blk→γ b≠some (k,N))) hb h1 h2 hk (fun k => .inl)
  (fun k h3 h4 => .inr ⟨h4,fun b blk N hb1 hγ=>by have:=hlt hb1 hγ;omega⟩)
  (fun k hkk=>hkk.elim (fun h3=>hr'.base k h3) (fun h3=>h3.1))
 have hB:∀ b blk p,g.s.h.get b=some blk→γ b=some p→¬ B p.1→¬ (B p.1∨(p.1<w'.heap.size∧∀ b blk N,g.s.h.get b=some blk→γ b≠some (p.1,N))):=by
  intro b blk p hb1 hγ hnB hor
  rcases hor with h3 | h3
  · exact hnB h3
  · exact h3.2 b blk p.2 hb1 hγ
 have key1:FR γ nt (nx0 g (norm r)).s.T (nx0 g (norm r)).s.ds (a.put o.dst r):=by
  have hf':=hf.put (dst:=o.dst) (av:=norm r) (v:=r) (T':=putD o.dst g.s.T (norm r)) (Gm.le.refl γ) (norm_VR r) (by
   unfold tput putD
   cases hd:o.dst with
   | none=>rfl
   | some d=>
     have:Nat.blt d nt=true:=Nat.ble_eq_true_of_le (hdlt d hd)
     simp only [this])
  have e:(nx0 g (norm r)).s.T=putD o.dst g.s.T (norm r)∧(nx0 g (norm r)).s.ds=g.s.ds:=by
   rw [← hdst]
   obtain ⟨k,s⟩:=g
   unfold nx0 nx dstOf putD
   unfold hdOp at ho
   simp only at ho
   split at ho <;> first | (cases ho;done) | skip
   exact ⟨rfl,rfl⟩
  rw [e.1,e.2]
  exact hf'
 have key2:HR (fun k=>B k∨(k<w'.heap.size∧∀ b blk N,g.s.h.get b=some blk→γ b≠some (k,N))) P.globals.size γ (nx0 g (norm r)).s.h (nx0 g (norm r)).s.c w':=by
  have e:(nx0 g (norm r)).s.h=g.s.h∧(nx0 g (norm r)).s.c=g.s.c:=by
   obtain ⟨k,s⟩:=g
   unfold nx0 nx
   unfold hdOp at ho
   simp only at ho
   split at ho <;> first | (cases ho;done) | skip
   exact ⟨rfl,rfl⟩
  rw [e.1,e.2]
  refine ⟨fun b blk hb1=>?_,hr'.inj,hr'.fresh,hr'.glob,fun k hkk=>hkk.elim (fun h3=>hr'.base k h3) (fun h3=>h3.1)⟩
  obtain ⟨p,hp,hbr⟩:=hr'.live b blk hb1
  refine ⟨p,hp,?_⟩
  have hBp:=hB b blk p hb1 hp
  cases blk with
  | cells ty own clean ex lim cs=>
    obtain ⟨h0,h5⟩:=hbr
    exact ⟨fun ho=>hBp (h0 ho),h5⟩
  | map es clock=>
    obtain ⟨h0,h5⟩:=hbr
    exact ⟨hBp h0,h5⟩
  | row e xs=>
    obtain ⟨h0,h5⟩:=hbr
    exact ⟨hBp h0,h5⟩
 have hfin:=hg'.out γ (a.put o.dst r) w' hle key1 key2 (Keep.refl _ _)
 have e:(nx0 g (norm r)).k=restK g:=by
  obtain ⟨k,s⟩:=g
  unfold nx0 nx restK
  unfold hdOp at ho
  simp only at ho
  split at ho <;> first | (cases ho;done) | skip
  rfl
 rw [e] at hfin
 exact hfin
end
end Go.Sy
end
end
section
noncomputable section
namespace Go.Sy
open Go Go.RowKit
def cellOf (bx off:Nat) (h:Hp):Option AV:=match h.get bx with
 | some (.cells _ _ _ _ lim cs)=>match Nat.blt off lim with
   | true=>cs.get off
   | false=>none
 | _=>none
section
variable {P:Program} {I:Aux} {B:Nat→Prop} {w0:World} {γ0:Gm} {nt:Nat} {Q:Exit→Act→World→Prop} {g:Cfg}
theorem good_giveB (bx off b e esz n:Nat) (xs:List Value) (h:cellOf bx off g.s.h=some (.slg b 0 n esz)) (hb1:g.s.h.get b=some (.row e xs)) (hlen:xs.length=n*esz)
  (hg:∀ k cap w1 B1,Keep B w0 w1→(∀ j,B j→B1 j)→(∀ j,B1 j→j<w1.heap.size)→SlAt B1 w1 (some ⟨k,0,none⟩) n esz xs→
   Good P B1 w1 γ0 nt Q ⟨g.k,⟨g.s.T,plainH bx off (.slice (some ⟨k,0,none⟩) n cap) (g.s.h.put b none),g.s.c,g.s.ds⟩⟩):Good P B w0 γ0 nt Q g:=by
 unfold cellOf at h
 split at h <;> first | (cases h;done) | skip
 rename_i ty0 own0 cl0 ex0 lim0 cs0 hbx
 split at h <;> first | (cases h;done) | skip
 rename_i hoff
 have hoff:=blt_lt hoff
 have hne:bx≠b:=fun e1=>by subst e1;rw [hbx] at hb1;cases hb1
 refine ⟨fun γ a w hle hf hr hk=>?_⟩
 obtain ⟨p,hp,hbr⟩:=hr.live b _ hb1
 obtain ⟨h0,c,h1,h2,h3⟩:=hbr
 obtain ⟨px,hpx,hbrx⟩:=hr.live bx _ hbx
 obtain ⟨hx0,cx,tyx,fzx,hx1,hx2,hx3,hx4⟩:=hbrx
 obtain ⟨v,hv1,hv2⟩:=hx4 off _ hoff h
 obtain ⟨n1,N,cap,rfl,hγ⟩:∃ n1 N cap,v = .slice (some ⟨n1,0,none⟩) n cap∧γ b=some (n1,N):=by
  cases hv2 with
  | slg h hl hm ho=>obtain ⟨q1,q2⟩:=ho (.inl rfl);subst q1;exact ⟨_,_,_,rfl,h⟩
 rw [hγ] at hp
 injection hp with hp
 subst hp
 simp only at h0 h1 h2
 have hlt:n1<w.heap.size:=(Array.getElem?_eq_some_iff.1 h1).1
 have hr1:HR (fun j=>B j∨j=n1) P.globals.size γ (g.s.h.put b none) g.s.c w:=by
  refine ⟨fun b2 blk2 hb2=>?_,fun b2 b3 blk2 blk3 p2 p3 h5 h6 g1 g2 e=>?_,hr.fresh,hr.glob,fun j hj=>hj.elim (fun h=>hr.base j h) (fun e=>by subst e;exact hlt)⟩
  · rw [Tr.get_put] at hb2
    split at hb2
    · cases hb2
    rename_i hne
    obtain ⟨q,hq,hbr2⟩:=hr.live b2 blk2 hb2
    have hne2:q.1≠n1:=fun e=>hne (hr.inj _ _ _ _ _ _ hb2 hb1 hq hγ e)
    have key:¬ B q.1→¬ (B q.1∨q.1=n1):=fun h1 h2=>h2.elim h1 hne2
    refine ⟨q,hq,?_⟩
    cases blk2 with
    | cells ty own cl ex lim cs=>exact ⟨fun e=>key (hbr2.1 e),hbr2.2⟩
    | map es clock=>exact ⟨key hbr2.1,hbr2.2⟩
    | row e xs=>exact ⟨key hbr2.1,hbr2.2⟩
  · rw [Tr.get_put] at h5 h6
    split at h5
    · cases h5
    split at h6
    · cases h6
    exact hr.inj _ _ _ _ _ _ h5 h6 g1 g2 e
 have hbx2:(g.s.h.put b none).get bx=some (.cells ty0 own0 cl0 ex0 lim0 cs0):=by rw [Tr.get_put,if_neg hne];exact hbx
 refine (hg n1 cap w (fun j=>B j∨j=n1) hk (fun j => .inl) (fun j hj=>hj.elim (fun h=>hr.base j h) (fun e=>by subst e;exact hlt)) ⟨hlen,.inr ⟨rfl,.inr rfl,fun j v hv=>?_⟩⟩).out γ a w hle ⟨hf.size,hf.tmps,hf.defs⟩ ?_ (Keep.refl _ _)
 · rw [← h3] at hv
   have hj:=(List.getElem?_eq_some_iff.1 hv).1
   rw [List.length_take] at hj
   rw [List.getElem?_take,if_pos (by omega)] at hv
   simp only [gB,oB,Nat.zero_add]
   simp [World.cell?,h1]
   simpa using hv
 · show HR _ _ _ (plainH bx off (.slice (some ⟨n1,0,none⟩) n cap) (g.s.h.put b none)) _ _
   obtain ⟨px2,hpx2,hbrx2⟩:=hr1.live bx _ hbx2
   obtain ⟨hy0,cy,tyy,fzy,hy1,hy2,hy3,hy4⟩:=hbrx2
   obtain rfl:px2=px:=by rw [hpx] at hpx2;injection hpx2 with e;exact e.symm
   have hcc:cy=cx:=by rw [hx1] at hy1;injection hy1 with e;injection e with e1 e2;exact e1.symm
   subst hcc
   unfold plainH
   rw [hbx2]
   refine hr1.turn hbx2 hpx2 (Nat.le_refl _) (fun _ _ _=>rfl) ⟨hy0,cy,tyy,fzy,hy1,hy2,hy3,fun i a' hi hi'=>?_⟩
   rw [Tr.get_put] at hi'
   split at hi'
   · rename_i e
     subst e
     injection hi' with hi'
     subst hi'
     exact ⟨_,hv1,.v _⟩
   · exact hy4 i a' hi hi'
end
end Go.Sy
end
end
section
noncomputable section
namespace Go.Sy
open Go Go.RowKit Go.As
section
variable {P:Program} {I:Aux} {B:Nat→Prop} {w0:World} {γ0:Gm} {nt:Nat} {Q:Exit→Act→World→Prop} {g:Cfg}
theorem good_appS' {t e:Nat} {z:Value} (esz bytes b n m:Nat) (xs:List Value) (X:AV) (ob:Option Blk) (A:Option Addr) (kk:Nat) (news:List Value) (E:List Nat)
  (h:hdApp P nt g=some ([t,t],X,.v (.slice A m kk))) (hu:P.underlying t=some (.slice e)) (hinf:(P.info? e).map (fun i=>(i.zero,i.size,i.bytes))=some (some z,esz,bytes)) (hzs:z.cells.size=esz) (hpos:0<esz) (hby0:0<bytes)
  (hrow:RowAt e esz b n xs X ob) (hob:g.s.h.get b=ob) (hsl:∀ w,Keep B w0 w→Sl w esz A m news) (hone:news.all (fun v=>v.oneCell')=true) (hby:(n+m)*bytes≤140737488355328)
  (hγb:γ0 b=none) (hbc:Nat.blt b g.s.c=true) (hGb:Nat.ble P.globals.size b=true) (hds:g.s.ds=[]) (hE:trAll (avNo b) (eraseL E g.s.T)=true) (hH:trAll (blkNo b) (g.s.h.put b none)=true)
  (hg:∀ X' ob',RowAt e esz b (n+m) (xs++news) X' ob'→Good P B w0 γ0 nt Q ⟨restK g,⟨putD (dstOf g) (eraseL E g.s.T) X',g.s.h.put b ob',g.s.c,[]⟩⟩):Good P B w0 γ0 nt Q g:=by
 have hbc:=blt_lt hbc
 have hGb:P.globals.size≤b:=Nat.le_of_ble_eq_true hGb
 unfold hdApp at h
 split at h
 · cases h
 rename_i o ho
 split at h <;> first | (cases h;done) | skip
 rename_i k hop
 split at h <;> first | (cases h;done) | skip
 rename_i s x hce hargs
 split at h <;> first | (cases h;done) | skip
 rename_i aS aX hs hx
 injection h with h
 injection h with e1 h
 injection h with e2 e3
 subst e2 e3
 have hargs':k.args=#[s,x]:=by apply Array.ext';simpa using hargs
 have hts:k.argTypes=#[t,t]:=by apply Array.ext';simpa using e1
 have hop':o.op = .call { callee := .builtin .append,args:=#[s,x],argTypes:=#[t,t] }:=by rw [hop,← hce,← hargs',← hts]
 refine good_opF ho (fun γ a w K QQ hle hf hr hb hdst hdlt hK=>?_)
 have hok:=hf.ok (P:=P) (B:=B) (G:=0) hr.glob o.op.operands.toList
 have hmem:o.op.operands.toList=[s,x]:=by rw [hop'];simp [Op.operands,Call.operands]
 have hs':=hok s (by simp [hmem]) _ hs
 have hx':=hok x (by simp [hmem]) _ hx
 obtain ⟨hown,hoB⟩:=row_own (base:=0) hrow hob hr hs' (fun k _=>Nat.zero_le _)
 obtain ⟨v',w',hrun,hown',hgr,hsn⟩:=run_app (P:=P) 0 t o.type e z esz bytes hu hinf hzs hpos hby0 (a.eval s) n xs hown A m kk news (hsl w hb) (fun u hu=>List.all_eq_true.1 hone u hu) hby (Nat.zero_le _)
 have hxe:a.eval x = .slice A m kk:=by generalize a.eval x=q at hx';cases hx';rfl
 have hopr:(execOp a.eval o).run P w = .ok (.value v') w':=by
  unfold execOp
  simp only [hop',resolve,invoke,builtin,Sem.run_bind,Sem.run_pure,Result.andThen_ok,List.map_toArray,List.map_cons,List.map_nil,hxe,hrun]
 rcases hown'.2 with ⟨rfl,h0⟩ | ⟨gg,cap,cur,rfl,_,hheap,hnc,hcm,hcs,htake⟩
 ·
  have hnews:xs++news=[]:=by
   have:=hown'.1
   rw [h0] at this
   exact List.eq_nil_of_length_eq_zero (by simpa using this)
  have hrow0:RowAt e esz b (n+m) (xs++news) (.v (.slice none 0 0)) none:=⟨by rw [hnews,h0];simp,.inl ⟨rfl,rfl,h0⟩⟩
  have hkeep:∀ b1 blk p,b1≠b→g.s.h.get b1=some blk→γ b1=some p→w'.heap[p.1]?=w.heap[p.1]?:=by
   intro b1 blk p hne h1 h2
   obtain ⟨q,hq,hbr⟩:=hr.live b1 _ h1
   obtain rfl:q=p:=by rw [hq] at h2;injection h2
   refine hgr.block _ hbr.lt (fun e=>?_)
   obtain ⟨_,hγ⟩:=hoB q.1 e.symm
   have hobs:∃ blk2,g.s.h.get b=some blk2:=by
    rcases hrow.2 with ⟨hX,_,_⟩ | ⟨_,hob2⟩
    · subst hX
      generalize hvs:a.eval s=vS at hs' e
      cases hs'
      simp [Value.ownBlock] at e
    · exact ⟨_,hob.trans hob2⟩
   obtain ⟨blk2,hblk2⟩:=hobs
   exact hne (hr.inj _ _ _ _ _ _ h1 hblk2 hq hγ rfl)
  refine wp_val hopr (hK γ _ w' (putD (dstOf g) (eraseL E g.s.T) (.v (.slice none 0 0))) (g.s.h.put b none) g.s.c hle ⟨?_,?_,?_⟩ ⟨fun b1 blk hb1=>?_,fun b1 b2 blk1 blk2 p1 p2 h1 h2 g1 g2 e=>?_,hr.fresh,hr.glob,fun k hk=>Nat.lt_of_lt_of_le (hr.base k hk) hgr.size⟩
   (hb.grown hgr hr.base (fun k hk=>(hoB k hk).1)) (by have:=hg _ _ hrow0;rw [hds];exact this))
  · have:=hf.size
    cases o.dst with
    | none=>exact this
    | some d=>simp [Act.put,this]
  · intro t' av ht
    have hold:∀ {t'':Nat} {av':AV},(eraseL E g.s.T).get t''=some av'→(∀ d,o.dst=some d→t''≠d)→∃ v,(a.put o.dst (.slice none 0 0)).tmps[t'']?=some v∧VR γ av' v:=by
     intro t'' av' h1 hne
     obtain ⟨v,h2,h3⟩:=hf.tmps t'' av' (eraseL_get h1)
     refine ⟨v,?_,h3⟩
     cases hd:o.dst with
     | none=>simpa [Act.put,hd] using h2
     | some d=>simp only [Act.put,hd];rw [Array.getElem?_setIfInBounds_ne (fun e=>hne d hd e.symm)];exact h2
    rw [hdst] at ht
    cases hd:o.dst with
    | none=>
      rw [hd] at ht hold
      exact hold ht (fun d e=>by cases e)
    | some d=>
      rw [hd] at ht hold
      simp only [putD] at ht
      rw [Tr.get_put] at ht
      split at ht
      · rename_i e
        subst e
        injection ht with ht
        subst ht
        refine ⟨_,?_,.v _⟩
        simp [Act.put,hf.size,hdlt _ hd]
      · rename_i hne
        exact hold ht (fun d' e=>by injection e with e;subst e;exact hne)
  · have:=hf.defs
    rw [hds] at this ⊢
    have h2:(a.put o.dst (.slice none 0 0)).defers=a.defers:=by cases o.dst <;> rfl
    rw [h2]
    revert this
    cases a.defers with
    | nil=>exact fun _=>trivial
    | cons d l=>exact fun h=>h.elim
  · rw [Tr.get_put] at hb1
    split at hb1
    · cases hb1
    · rename_i hne
      obtain ⟨p,hp,hbr⟩:=hr.live b1 blk hb1
      exact ⟨p,hp,hbr.kept (hkeep b1 blk p hne hb1 hp)⟩
  · rw [Tr.get_put] at h1 h2
    split at h1 <;> split at h2 <;> first | (cases h1;done) | (cases h2;done) | skip
    exact hr.inj _ _ _ _ _ _ h1 h2 g1 g2 e
 have hBg:¬ B gg:=by
  rcases hsn gg rfl with h5 | h5
  · exact (hoB gg h5).1
  · exact fun hB=>Nat.not_lt.2 h5 (hr.base gg hB)
 have hbd:∀ b1 blk p,b1≠b→g.s.h.get b1=some blk→γ b1=some p→w'.heap[p.1]?=w.heap[p.1]?∧p.1≠gg:=by
  intro b1 blk p hne h1 h2
  obtain ⟨q,hq,hbr⟩:=hr.live b1 _ h1
  obtain rfl:q=p:=by rw [hq] at h2;injection h2
  have hno:∀ j,(a.eval s).ownBlock=some j→q.1≠j:=by
   intro j hj e
   obtain ⟨_,hγ⟩:=hoB j hj
   have hobs:∃ blk2,g.s.h.get b=some blk2:=by
    rcases hrow.2 with ⟨hX,_,_⟩ | ⟨_,hob2⟩
    · subst hX
      generalize hvs:a.eval s=vS at hs' hj
      cases hs'
      simp [Value.ownBlock] at hj
    · exact ⟨_,hob.trans hob2⟩
   obtain ⟨blk2,hblk2⟩:=hobs
   exact hne (hr.inj _ _ _ _ _ _ h1 hblk2 hq hγ e)
  refine ⟨hgr.block _ hbr.lt (fun e=>hno _ e.symm rfl),fun e=>?_⟩
  rcases hsn gg rfl with h5 | h5
  · exact hno gg h5 e
  · have:=hbr.lt
    omega
 have hrow':RowAt e esz b (n+m) (xs++news) (.slg b 0 (n+m) esz) (some (.row e (xs++news))):=⟨hown'.1,.inr ⟨rfl,rfl⟩⟩
 have hupd:∀ {b1:Nat} {p:Nat×Nat},b1≠b→γ b1=some p→(γ.upd b (gg,cap*esz)) b1=some p:=fun hne h1=>Gm.upd_ne h1 hne
 refine wp_val hopr (hK (γ.upd b (gg,cap*esz)) _ w' (putD (dstOf g) (eraseL E g.s.T) (.slg b 0 (n+m) esz)) (g.s.h.put b (some (.row e (xs++news)))) g.s.c (fun b1 p hp=>?_) ⟨?_,?_,?_⟩ ⟨fun b1 blk hb1=>?_,fun b1 b2 blk1 blk2 p1 p2 h1 h2 g1 g2 e=>?_,fun b1 hb1=>?_,fun x hx=>?_,fun k hk=>Nat.lt_of_lt_of_le (hr.base k hk) hgr.size⟩
  (hb.grown hgr hr.base (fun k hk=>(hoB k hk).1)) (by have:=hg _ _ hrow';rw [hds];exact this))
 · refine hupd (fun e=>?_) (hle b1 p hp)
   subst e
   rw [hγb] at hp
   cases hp
 · have:=hf.size
   cases o.dst with
   | none=>exact this
   | some d=>simp [Act.put,this]
 · intro t' av ht
   have hold:∀ {t'':Nat} {av':AV},(eraseL E g.s.T).get t''=some av'→(∀ d,o.dst=some d→t''≠d)→∃ v,(a.put o.dst (.slice (some ⟨gg,0,none⟩) (n+m) cap)).tmps[t'']?=some v∧VR (γ.upd b (gg,cap*esz)) av' v:=by
    intro t'' av' h1 hne
    obtain ⟨v,h2,h3⟩:=hf.tmps t'' av' (eraseL_get h1)
    refine ⟨v,?_,h3.upd (trAll_get hE t'' av' h1)⟩
    cases hd:o.dst with
    | none=>simpa [Act.put,hd] using h2
    | some d=>simp only [Act.put,hd];rw [Array.getElem?_setIfInBounds_ne (fun e=>hne d hd e.symm)];exact h2
   rw [hdst] at ht
   cases hd:o.dst with
   | none=>
     rw [hd] at ht hold
     exact hold ht (fun d e=>by cases e)
   | some d=>
     rw [hd] at ht hold
     simp only [putD] at ht
     rw [Tr.get_put] at ht
     split at ht
     · rename_i e
       subst e
       injection ht with ht
       subst ht
       refine ⟨_,?_,.slg (Gm.upd_same _ _ _) hnc hcm (fun _=>⟨rfl,by simp⟩)⟩
       simp [Act.put,hf.size,hdlt _ hd]
     · rename_i hne
       exact hold ht (fun d' e=>by injection e with e;subst e;exact hne)
 · have:=hf.defs
   rw [hds] at this ⊢
   have h2:(a.put o.dst (.slice (some ⟨gg,0,none⟩) (n+m) cap)).defers=a.defers:=by cases o.dst <;> rfl
   rw [h2]
   revert this
   cases a.defers with
   | nil=>exact fun _=>trivial
   | cons d l=>exact fun h=>h.elim
 · rw [Tr.get_put] at hb1
   split at hb1
   · rename_i e
     subst e
     injection hb1 with hb1
     subst hb1
     refine ⟨_,Gm.upd_same _ _ _,hBg,cur,hheap,hcs,?_⟩
     rw [hown'.1]
     exact htake
   · rename_i hne
     obtain ⟨p,hp,hbr⟩:=hr.live b1 blk hb1
     refine ⟨p,hupd hne hp,(hbr.upd ?_).kept (hbd b1 blk p hne hb1 hp).1⟩
     exact trAll_get hH b1 blk (by rw [Tr.get_put,if_neg hne];exact hb1)
 · rw [Tr.get_put] at h1 h2
   split at h1 <;> split at h2
   · rename_i e1 e2;exact e1.trans e2.symm
   · rename_i e1 e2
     subst e1
     rw [Gm.upd_same] at g1
     injection g1 with g1
     subst g1
     obtain ⟨q,hq,_⟩:=hr.live b2 _ h2
     have:q=p2:=by have:=hupd e2 hq;rw [this] at g2;injection g2
     subst this
     exact absurd e.symm (hbd b2 blk2 q e2 h2 hq).2
   · rename_i e1 e2
     subst e2
     rw [Gm.upd_same] at g2
     injection g2 with g2
     subst g2
     obtain ⟨q,hq,_⟩:=hr.live b1 _ h1
     have:q=p1:=by have:=hupd e1 hq;rw [this] at g1;injection g1
     subst this
     exact absurd e (hbd b1 blk1 q e1 h1 hq).2
   · rename_i e1 e2
     obtain ⟨q,hq,_⟩:=hr.live b1 _ h1
     obtain ⟨q',hq',_⟩:=hr.live b2 _ h2
     have k1:q=p1:=by have:=hupd e1 hq;rw [this] at g1;injection g1
     have k2:q'=p2:=by have:=hupd e2 hq';rw [this] at g2;injection g2
     subst k1 k2
     exact hr.inj _ _ _ _ _ _ h1 h2 hq hq' e
 · unfold Gm.upd
   have hb1:g.s.c≤b1:=hb1
   rw [if_neg (by omega)]
   exact hr.fresh b1 hb1
 · obtain ⟨N,hN⟩:=hr.glob x hx
   exact ⟨N,hupd (by omega) hN⟩
theorem slAt_Sl {F:Nat→Prop} {w w':World} {a:Option Addr} {n sz:Nat} {xs:List Value} (h:SlAt F w a n sz xs) (hF:∀ k,F k→k<w.heap.size) (hk:Keep F w w'):Sl w' sz a n xs:=by
 refine ⟨h.len,fun hn=>?_⟩
 rcases h.place with h0 | ⟨ha,hb,hc⟩
 · omega
 · refine ⟨⟨gB a,oB a,none⟩,ha,Nat.lt_of_lt_of_le (hF _ hb) hk.size,fun j u hu=>?_⟩
   rw [Addr.add_mid]
   exact rangeAt_keep hk hb hc j u hu
theorem good_appS {t e:Nat} (esz bytes b n m:Nat) (xs:List Value) (X:AV) (ob:Option Blk) (A:Option Addr) (kk:Nat) (news:List Value) (E:List Nat)
  (h:hdApp P nt g=some ([t,t],X,.v (.slice A m kk))) (hu:elemOf P t=some e) (hi:infoOf P e=some (esz,bytes)) (hpos:Nat.blt 0 esz=true) (hby0:Nat.blt 0 bytes=true)
  (hrow:RowAt e esz b n xs X ob) (hob:g.s.h.get b=ob) {F:Nat→Prop} (hsl:SlAt F w0 A m esz news) (hF:∀ k,F k→B k) (hF0:∀ k,F k→k<w0.heap.size) (hone:news.all (fun v=>v.oneCell')=true) (hby:(n+m)*bytes≤140737488355328)
  (hγb:γ0 b=none) (hbc:Nat.blt b g.s.c=true) (hGb:Nat.ble P.globals.size b=true) (hds:g.s.ds=[]) (hE:trAll (avNo b) (eraseL E g.s.T)=true) (hH:trAll (blkNo b) (g.s.h.put b none)=true)
  (hg:∀ X' ob',RowAt e esz b (n+m) (xs++news) X' ob'→Good P B w0 γ0 nt Q ⟨restK g,⟨putD (dstOf g) (eraseL E g.s.T) X',g.s.h.put b ob',g.s.c,[]⟩⟩):Good P B w0 γ0 nt Q g:=by
 unfold elemOf at hu
 split at hu <;> first | (cases hu;done) | skip
 rename_i e' hu'
 injection hu with hu
 subst hu
 unfold infoOf at hi
 split at hi <;> first | (cases hi;done) | skip
 rename_i i hi'
 split at hi <;> first | (cases hi;done) | skip
 rename_i z hz
 split at hi <;> first | (cases hi;done) | skip
 rename_i hzs
 injection hi with hi
 injection hi with e1 e2
 subst e1 e2
 exact good_appS' i.size i.bytes b n m xs X ob A kk news E h hu' (z:=z) (by rw [hi',Option.map_some,hz]) (Nat.eq_of_beq_eq_true hzs) (blt_lt hpos) (blt_lt hby0) hrow hob (fun w hk=>slAt_Sl hsl hF0 (hk.mono hF)) hone hby hγb hbc hGb hds hE hH hg
end
end Go.Sy
end
end
section
noncomputable section
namespace Go.Sy
open Go Go.RowKit
theorem allLtT_cons {n:Nat} {p:Nat×AV} {l:List (Nat×AV)} (h:avLt n p.2=true) (hl:allLtT n l=true):allLtT n (p::l)=true:=by simp only [allLtT];rw [h];exact hl
theorem allLtH_cons {n:Nat} {p:Nat×Option Blk} {l:List (Nat×Option Blk)} (h:Nat.blt p.1 n=true) (hb:(match p.2 with | none=>true | some b=>blkLt n b)=true) (hl:allLtH n l=true):allLtH n (p::l)=true:=by
 obtain ⟨k,ob⟩:=p
 cases ob with
 | none=>simp only [allLtH];rw [show Nat.blt k n=true from h];exact hl
 | some b=>simp only [allLtH];rw [show Nat.blt k n=true from h,show blkLt n b=true from hb];exact hl
theorem allLtH_row {n e esz b m:Nat} {xs:List Value} {X:AV} {ob:Option Blk} {l:List (Nat×Option Blk)} (h:Nat.blt b n=true) (hrow:RowAt e esz b m xs X ob) (hl:allLtH n l=true):allLtH n ((b,ob)::l)=true:=by
 rcases hrow.2 with ⟨_,rfl,_⟩ | ⟨_,rfl⟩
 · exact allLtH_cons h rfl hl
 · exact allLtH_cons h rfl hl
section
variable {P:Program} {B:Nat→Prop} {w0:World} {γ0:Gm} {nt:Nat} {g:Cfg}
theorem good_endRow {fn:Func} {R:Ending→World→Prop} {e esz b n base:Nat} {xs:List Value} {X:AV} {ob:Option Blk} (hrow:RowAt e esz b n xs X ob) (h:endOf P fn g=some X) (hob:g.s.h.get b=ob) (hbase:∀ k,k<base→B k)
  (hR:∀ w a cap,Keep B w0 w→SlAt (fun k=>base≤k∧k<w.heap.size) w a n esz xs→R (.returned (.slice a n cap)) w):Good P B w0 γ0 nt (bodyPostD P fn R) g:=by
 refine good_end h (fun γ w v _ hv hr hk=>?_)
 obtain ⟨hown,_⟩:=row_own (base:=base) hrow hob hr hv (fun k hk=>Nat.le_of_not_lt (fun h=>hk (hbase k h)))
 obtain ⟨a,cap,rfl,_,hsl⟩:=SlAt.of_own (F:=fun k=>base≤k∧k<w.heap.size) hown (fun k h1 h2=>⟨h1,h2⟩)
 exact hR w a cap hk hsl
end
end Go.Sy
end
end
section
namespace Go.Proofs.YtiacalnkmnckjaaGreatDoor
open Go.RowKit Go.As Go.Sy
section
variable {B:Nat→Prop} {w0:World} {γ0:Gm} {nt:Nat} {Q:Exit→Act→World→Prop} {g:Cfg} {q:QCfg}
theorem rk (h:Sy.Good Tryz.prog B w0 γ0 nt Q (run Tryz.prog syI (evCall Tryz.prog syI (ev Tryz.prog syI 0)) nt [] 60 0 g)):Sy.Good Tryz.prog B w0 γ0 nt Q g:=run_ok (sy_cx _ _) 0 [] 60 0 h
theorem rs (stops:List Nat) (n au:Nat) (h:Sy.Good Tryz.prog B w0 γ0 nt Q (run Tryz.prog syI (evCall Tryz.prog syI (ev Tryz.prog syI 0)) nt stops n au g)):Sy.Good Tryz.prog B w0 γ0 nt Q g:=run_ok (sy_cx _ _) 0 stops n au h
theorem gS (t:Nat) {x:Value} (y:Value) (e:x=y) (hg:Sy.Good Tryz.prog B w0 γ0 nt Q (setT g t (norm y))) (h:g.s.T.get t=some (.v x):=by kernel_rfl):Sy.Good Tryz.prog B w0 γ0 nt Q g:=good_set t y h e hg
theorem gF (t:Nat) (a b:Int) (e:¬ a=b) (hg:Sy.Good Tryz.prog B w0 γ0 nt Q (setT g t (norm (.bool false)))) (h:g.s.T.get t=some (.v (.bool (intEq a b))):=by kernel_rfl):Sy.Good Tryz.prog B w0 γ0 nt Q g:=good_set t (.bool false) h (by rw [eq_f e]) hg
theorem gT (t:Nat) (a b:Int) (e:a=b) (hg:Sy.Good Tryz.prog B w0 γ0 nt Q (setT g t (norm (.bool true)))) (h:g.s.T.get t=some (.v (.bool (intEq a b))):=by kernel_rfl):Sy.Good Tryz.prog B w0 γ0 nt Q g:=good_set t (.bool true) h (by rw [eq_t e]) hg
theorem gV {S:Sem Value} (x:Value) (hrun:∀ w,Keep B w0 w→S.run Tryz.prog w = .ok x w) (hg:Sy.Good Tryz.prog B w0 γ0 nt Q (nx0 g (norm x))) (h:hdSem Tryz.prog nt g=some S:=by kernel_rfl):Sy.Good Tryz.prog B w0 γ0 nt Q g:=good_val x h hrun hg
theorem gK {b:Bool} (c:Bool) (e:b=c) (hg:Sy.Good Tryz.prog B w0 γ0 nt Q (takeC c g)) (h:condOf Tryz.prog g=some (.v (.bool b)):=by kernel_rfl):Sy.Good Tryz.prog B w0 γ0 nt Q g:=good_take c h e hg
theorem gX {f:FuncId} (xs:List Value) (r:Value) (hc:∀ w,Keep B w0 w→Calls Tryz.prog f xs.toArray w fun e w'=>e = .returned r∧Below w.heap.size w w') (hg:Sy.Good Tryz.prog B w0 γ0 nt Q (nx0 g (norm r)))
 (h:hdCall Tryz.prog nt g=some (f,xs.map norm):=by kernel_rfl) (hbod:bodied Tryz.prog f=some true:=by kernel_rfl) (hx:closeLL (xs.map norm)=some xs:=by kernel_rfl):Sy.Good Tryz.prog B w0 γ0 nt Q g:=good_callB (sy_cx _ _) xs r h hbod hx hc hg
theorem gP {f:FuncId} (xs:List Value) (r:Value) (hc:∀ w,Keep B w0 w→Calls Tryz.prog f xs.toArray w fun e w'=>e = .returned r∧w=w') (hg:Sy.Good Tryz.prog B w0 γ0 nt Q (nx0 g (norm r)))
 (h:hdCall Tryz.prog nt g=some (f,xs.map norm):=by kernel_rfl) (hbod:bodied Tryz.prog f=some true:=by kernel_rfl) (hx:closeLL (xs.map norm)=some xs:=by kernel_rfl):Sy.Good Tryz.prog B w0 γ0 nt Q g:=good_callP (sy_cx _ _) xs r h hbod hx hc hg
theorem gE {f:FuncId} (xs:List Value) (Pr:Value→Prop) (hc:∀ w,Keep B w0 w→Calls Tryz.prog f xs.toArray w fun e w'=>∃ r,e = .returned r∧Pr r∧Below w.heap.size w w') (hg:∀ r w',Pr r→Keep B w0 w'→Sy.Good Tryz.prog B w0 γ0 nt Q (nx0 g (norm r)))
 (h:hdCall Tryz.prog nt g=some (f,xs.map norm):=by kernel_rfl) (hbod:bodied Tryz.prog f=some true:=by kernel_rfl) (hx:closeLL (xs.map norm)=some xs:=by kernel_rfl):Sy.Good Tryz.prog B w0 γ0 nt Q g:=good_callE (sy_cx _ _) xs Pr h hbod hx hc hg
theorem gN {f:FuncId} (xs:List Value) (Pr:Value→Prop) (hc:∀ w,Keep B w0 w→Calls Tryz.prog f xs.toArray w fun e w'=>∃ r,e = .returned r∧Pr r∧Below w.heap.size w w') (hg:∀ r w',Pr r→Keep B w0 w'→Sy.Good Tryz.prog B w0 γ0 nt Q (nx0 g (norm r)))
 (h:hdCall Tryz.prog nt g=some (f,xs.map norm):=by kernel_rfl) (hbod:bodied Tryz.prog f=some true:=by kernel_rfl):Sy.Good Tryz.prog B w0 γ0 nt Q g:=good_callN (sy_cx _ _) xs Pr h hbod hc hg
theorem gM {f:FuncId} (xs:List Value) {Pr:World→Value→World→Prop} (hc:∀ w,Keep B w0 w→Calls Tryz.prog f xs.toArray w fun e w'=>∃ r,e = .returned r∧Pr w r w'∧Below w.heap.size w w')
 (hg:∀ w r w' B',Keep B w0 w→Pr w r w'→Below w.heap.size w w'→Keep B w0 w'→(∀ k,B k→B' k)→(∀ k,w.heap.size≤k→k<w'.heap.size→B' k)→(∀ k,B' k→k<w'.heap.size)→Sy.Good Tryz.prog B' w' γ0 nt Q (nx0 g (norm r)))
 (h:hdCall Tryz.prog nt g=some (f,xs.map norm):=by kernel_rfl) (hbod:bodied Tryz.prog f=some true:=by kernel_rfl) (hx:closeLL (xs.map norm)=some xs:=by kernel_rfl):Sy.Good Tryz.prog B w0 γ0 nt Q g:=good_callM (sy_cx _ _) xs h hbod hx hc hg
theorem gR {fn:Func} {R:Ending→World→Prop} (r:Value) (hR:∀ w,Keep B w0 w→R (.returned r) w) (h:endV Tryz.prog fn g=some r:=by kernel_rfl):Sy.Good Tryz.prog B w0 γ0 nt (bodyPostD Tryz.prog fn R) g:=good_endV r h hR
theorem gG (t b:Nat) (ty:Nat) (vals:List Value) (hg:∀ k w1 B1,Keep B w0 w1→(∀ j,B j→B1 j)→B1 k→¬ B k→(∀ j,B1 j→j<w1.heap.size)→w1.heap[k]?=some (.cells vals.toArray ty (0,0))→
  Sy.Good Tryz.prog B1 w1 γ0 nt Q ⟨g.k,⟨g.s.T.put t (some (.v (.pointer (some ⟨k,0,none⟩)))),g.s.h.put b none,g.s.c,g.s.ds⟩⟩)
 (h:g.s.T.get t=some (.ptr b 0):=by kernel_rfl) (hb:giveB (g.s.h.get b)=some (ty,vals):=by kernel_rfl):Sy.Good Tryz.prog B w0 γ0 nt Q g:=good_give t b ty vals h hb hg
theorem cat_strW (x y:Operand) (a b:List UInt8) (h:a.length+b.length≤9223372036854775807) (w:World):
  ((do eqGuard .add 9 x y (.string (str a)) (.string (str b));binOp .add 9 (.string (str a)) (.string (str b))):Sem Value).run Tryz.prog w = .ok (.string (str (a++b))) w:=by
 have e:(eqGuard .add 9 x y (.string (str a)) (.string (str b))).run Tryz.prog w = .ok () w:=rfl
 rw [Sem.run_bind,e,← str_append]
 show (Op.stringOp .add (str a) (str b)).run Tryz.prog w=_
 exact run_string_add_sum w (str a) (str b) (by rw [str_size,str_size];exact h)
def catXY:Option Oper→Operand×Operand
 | some o=>match o.op with
   | .binOp _ _ x y _=>(x,y)
   | _=>(.tmp 0,.tmp 0)
 | none=>(.tmp 0,.tmp 0)
theorem gC (a b:List UInt8) (hl:a.length+b.length≤9223372036854775807) (hg:Sy.Good Tryz.prog B w0 γ0 nt Q (nx0 g (norm (.string (str (a++b))))))
  (h:hdSem Tryz.prog nt g=some (do eqGuard .add 9 (catXY (hdOp Tryz.prog nt g)).1 (catXY (hdOp Tryz.prog nt g)).2 (.string (str a)) (.string (str b));binOp .add 9 (.string (str a)) (.string (str b))):=by kernel_rfl):Sy.Good Tryz.prog B w0 γ0 nt Q g:=
 good_val _ h (fun w _=>cat_strW _ _ a b hl w) hg
theorem qV {S:Sem Value} (x:Value) (hrun:∀ w,Keep B w0 w→S.run Tryz.prog w = .ok x w) (hg:Sy.GoodQ Tryz.prog B w0 γ0 nt Q (qNx q (norm x))) (h:qSem Tryz.prog nt q=some S:=by kernel_rfl):Sy.GoodQ Tryz.prog B w0 γ0 nt Q q:=q_val x h hrun hg
theorem qB {f:FuncId} (xs:List Value) (r:Value) (hc:∀ w,Keep B w0 w→Calls Tryz.prog f xs.toArray w fun e w'=>e = .returned r∧Below w.heap.size w w') (hg:Sy.GoodQ Tryz.prog B w0 γ0 nt Q (qNx q (norm r)))
 (h:qCall Tryz.prog nt q=some (f,xs.map norm):=by kernel_rfl) (hbod:bodied Tryz.prog f=some true:=by kernel_rfl) (hx:closeLL (xs.map norm)=some xs:=by kernel_rfl):Sy.GoodQ Tryz.prog B w0 γ0 nt Q q:=q_callB (sy_cx _ _) xs r h hbod hx hc hg
theorem qS (t:Nat) {x:Value} (y:Value) (e:x=y) (hg:Sy.GoodQ Tryz.prog B w0 γ0 nt Q (qSet q t (norm y))) (h:q.s.T.get t=some (.v x):=by kernel_rfl):Sy.GoodQ Tryz.prog B w0 γ0 nt Q q:=q_set t y h e hg
theorem qE (hg:Sy.Good Tryz.prog B w0 γ0 nt Q (qOut q)) (h:qDone q=true:=by kernel_rfl):Sy.GoodQ Tryz.prog B w0 γ0 nt Q q:=q_end h hg
theorem pR (S:World→Prop) (hS:∀ w,Keep B w0 w→S w) (hg:Sy.Good Tryz.prog B w0 γ0 nt Q (pRun g)) (hSe:plS g=S:=by kernel_rfl) (h:isRun g=true:=by kernel_rfl):Sy.Good Tryz.prog B w0 γ0 nt Q g:=p_run S hSe hS h hg
theorem gU (K:List It) (lT:List (Nat×AV)) (lH:List (Nat×Option Blk)) (c2:Nat) (hγ:∀ b,c2≤b→γ0 b=none) (hg:Sy.Good Tryz.prog B w0 γ0 nt Q ⟨K,⟨mkT lT,mkH lH,c2,[]⟩⟩)
 (hk:g.k=K:=by kernel_rfl) (hds:g.s.ds=[]:=by kernel_rfl) (hT:lT.map (fun p=>g.s.T.get p.1)=lT.map (fun p=>some p.2):=by kernel_rfl) (hTl:allLtT c2 lT=true:=by kernel_rfl)
 (hH:lH.map (fun p=>g.s.h.get p.1)=lH.map (fun p=>p.2):=by kernel_rfl) (hHl:allLtH c2 lH=true:=by kernel_rfl) (hG:Nat.ble Tryz.prog.globals.size c2=true:=by kernel_rfl):Sy.Good Tryz.prog B w0 γ0 nt Q g:=good_sub K lT lH c2 hk hds hT hTl hH hHl hγ hG hg
end
end Go.Proofs.YtiacalnkmnckjaaGreatDoor
end
section
namespace Go.Proofs.YtiacalnkmnckjaaGreatDoor
open Go.RowKit Go.As Go.Sy
abbrev nI (x:Int):Value := .int .i64 x
abbrev nP (b:Nat):Value := .pointer (some ⟨b,0,none⟩)
abbrev nT (l:List UInt8):Value := .string (str l)
abbrev vI (x:Int):AV := .v (.int .i64 x)
abbrev vP (b:Nat):AV := .v (.pointer (some ⟨b,0,none⟩))
abbrev vT (l:List UInt8):AV := .v (.string (str l))
abbrev vB (b:Bool):AV := .v (.bool b)
abbrev vL (a:Option Addr) (n c:Nat):AV := .v (.slice a n c)
noncomputable abbrev bK (t n:Nat) (l:List AV):Option Blk:=some (.cells t true true true n (putL .leaf 0 l))
abbrev xL (o t b:Int) (s:List UInt8) (a:Option Addr) (n c:Nat):List Value:=[.int .u8 o,.int .u8 t,.int .u64 b,.string (str s),.slice a n c]
abbrev xV (o t b:Int) (s:List UInt8) (a:Option Addr) (n c:Nat):Value := .agg #[.int .u8 o,.int .u8 t,.int .u64 b,.string (str s),.slice a n c]
abbrev yL (k:Int) (m:List UInt8) (o t b:Int) (s:List UInt8) (a:Option Addr) (n c:Nat) (a1:Option Addr) (n1 c1:Nat) (a2:Option Addr) (n2 c2:Nat):List Value:=[.int .i64 k,.string (str m),.int .u8 o,.int .u8 t,.int .u64 b,.string (str s),.slice a n c,.slice a1 n1 c1,.slice a2 n2 c2]
abbrev yV (k:Int) (m:List UInt8) (o t b:Int) (s:List UInt8) (a:Option Addr) (n c:Nat) (a1:Option Addr) (n1 c1:Nat) (a2:Option Addr) (n2 c2:Nat):Value := .agg #[.int .i64 k,.string (str m),.int .u8 o,.int .u8 t,.int .u64 b,.string (str s),.slice a n c,.slice a1 n1 c1,.slice a2 n2 c2]
abbrev CB (f:FuncId) (xs:Array Value) (w:World) (x:Value):Prop:=Calls Tryz.prog f xs w fun r w'=>r = .returned x∧Below w.heap.size w w'
abbrev CP (f:FuncId) (xs:Array Value) (w:World) (x:Value):Prop:=Calls Tryz.prog f xs w fun r w'=>r = .returned x∧w=w'
theorem kU {B:Nat→Prop} {w w':World} (hk:Sy.Keep B w w'):∀ k,k<w.heap.size→k<w'.heap.size:=fun k h=>Nat.lt_of_lt_of_le h hk.size
theorem gA {γ:Gm} {n c:Nat} (h:∀ b,n≤b→γ b=none):∀ b,n+c≤b→γ b=none:=fun b hb=>h b (Nat.le_trans (Nat.le_add_right _ _) hb)
theorem lS1 {α:Type} {x:α} {l:List α}:l.length<(x::l).length:=Nat.lt_succ_self _
theorem eN (vs:List Value) {f:FuncId} {fn:Func} (hf:Tryz.prog.funcs[f]?=some fn) {w:World} {R:Ending→World→Prop}
 (hg:∀ γ0,(∀ b,Tryz.prog.globals.size≤b→γ0 b=none)→Sy.Good Tryz.prog (·<w.heap.size) w γ0 fn.ntmps (bodyPostD Tryz.prog fn R) (Sy.start Tryz.prog fn (vs.map norm)))
 (hb:fn.body.isSome=true:=by exact rfl) (hle:Nat.ble (vs.map norm).length fn.ntmps=true:=by exact rfl):Calls Tryz.prog f vs.toArray w R:=Sy.enter sy_fine hf hb (fun γ=>norms_LR vs) hle hg
section
variable {B:Nat→Prop} {w0:World} {γ0:Gm} {nt:Nat} {Q:Exit→Act→World→Prop} {g:Cfg} {q:QCfg} {F:Nat→Prop} {w:World} {a:Option Addr} {n sz:Nat} {xs:List Value}
theorem gJ (t:Nat) {α:Type} (l:List α) (x:α) (hl:l.length+1≤9223372036854775807) (hg:Sy.Good Tryz.prog B w0 γ0 nt Q (setT g t (norm (.int .i64 ((l++[x]).length:Int)))))
  (h:g.s.T.get t=some (.v (.int .i64 (wrapF .i64 ((l.length:Int)+1)))):=by kernel_rfl):Sy.Good Tryz.prog B w0 γ0 nt Q g:=
 good_set t (.int .i64 ((l++[x]).length:Int)) h (by rw [wr64 (n:=(l.length:Int)+1) (by omega) (by omega)];congr 1;simp) hg
theorem kx (a b:Int) (e:a<b) (hg:Sy.Good Tryz.prog B w0 γ0 nt Q (takeC true g)) (h:condOf Tryz.prog g=some (.v (.bool (intLt a b))):=by kernel_rfl):Sy.Good Tryz.prog B w0 γ0 nt Q g:=good_take true h (lt_t e) hg
theorem ky (a b:Int) (e:¬ a<b) (hg:Sy.Good Tryz.prog B w0 γ0 nt Q (takeC false g)) (h:condOf Tryz.prog g=some (.v (.bool (intLt a b))):=by kernel_rfl):Sy.Good Tryz.prog B w0 γ0 nt Q g:=good_take false h (lt_f e) hg
theorem kz (a b:Int) (e:a=b) (hg:Sy.Good Tryz.prog B w0 γ0 nt Q (takeC true g)) (h:condOf Tryz.prog g=some (.v (.bool (intEq a b))):=by kernel_rfl):Sy.Good Tryz.prog B w0 γ0 nt Q g:=good_take true h (eq_t e) hg
theorem kw (a b:Int) (e:¬ a=b) (hg:Sy.Good Tryz.prog B w0 γ0 nt Q (takeC false g)) (h:condOf Tryz.prog g=some (.v (.bool (intEq a b))):=by kernel_rfl):Sy.Good Tryz.prog B w0 γ0 nt Q g:=good_take false h (eq_f e) hg
theorem zx (t:Nat) (a b:Int) (e:a<b) (hg:Sy.Good Tryz.prog B w0 γ0 nt Q (setT g t (norm (.bool true)))) (h:g.s.T.get t=some (.v (.bool (intLt a b))):=by kernel_rfl):Sy.Good Tryz.prog B w0 γ0 nt Q g:=good_set t (.bool true) h (by rw [lt_t e]) hg
theorem zy (t:Nat) (a b:Int) (e:¬ a<b) (hg:Sy.Good Tryz.prog B w0 γ0 nt Q (setT g t (norm (.bool false)))) (h:g.s.T.get t=some (.v (.bool (intLt a b))):=by kernel_rfl):Sy.Good Tryz.prog B w0 γ0 nt Q g:=good_set t (.bool false) h (by rw [lt_f e]) hg
theorem gI (t e:TypeId) (cap i:Nat) (h:SlAt F w a n sz xs) (hin:i<n) (hg:Sy.Good Tryz.prog B w0 γ0 nt Q (nx0 g (norm (.pointer (some ⟨gB a,oB a+i*sz,none⟩)))))
  (hh:hdSem Tryz.prog nt g=some (Instr.indexAt t (.slice a n cap) (.int .i64 (i:Int))):=by kernel_rfl) (hu:Sy.elemOf Tryz.prog t=some e:=by kernel_rfl) (hi:szB Tryz.prog e=some sz:=by kernel_rfl):Sy.Good Tryz.prog B w0 γ0 nt Q g:=
 good_val _ hh (fun W _=>idx_sl (e:=e) h hu hi hin W) hg
theorem qI (t e:TypeId) (cap i:Nat) (h:SlAt F w a n sz xs) (hin:i<n) (hg:Sy.GoodQ Tryz.prog B w0 γ0 nt Q (qNx q (norm (.pointer (some ⟨gB a,oB a+i*sz,none⟩)))))
  (hh:qSem Tryz.prog nt q=some (Instr.indexAt t (.slice a n cap) (.int .i64 (i:Int))):=by kernel_rfl) (hu:Sy.elemOf Tryz.prog t=some e:=by kernel_rfl) (hi:szB Tryz.prog e=some sz:=by kernel_rfl):Sy.GoodQ Tryz.prog B w0 γ0 nt Q q:=
 q_val _ hh (fun W _=>idx_sl (e:=e) h hu hi hin W) hg
theorem gL (t:TypeId) (v:Value) (i o:Nat) (h:SlAt B w0 a n sz xs) (hv:xs[i*sz+o]?=some v) (hg:Sy.Good Tryz.prog B w0 γ0 nt Q (nx0 g (norm v)))
  (hh:hdSem Tryz.prog nt g=some (Instr.loadAt t (.pointer (some ⟨gB a,oB a+i*sz+o,none⟩))):=by kernel_rfl) (hb:aggB Tryz.prog t=some false:=by kernel_rfl):Sy.Good Tryz.prog B w0 γ0 nt Q g:=
 good_val _ hh (fun W hk=>load_sl h hb i o hv hk) hg
theorem qL (t:TypeId) (v:Value) (i o:Nat) (h:SlAt B w0 a n sz xs) (hv:xs[i*sz+o]?=some v) (hg:Sy.GoodQ Tryz.prog B w0 γ0 nt Q (qNx q (norm v)))
  (hh:qSem Tryz.prog nt q=some (Instr.loadAt t (.pointer (some ⟨gB a,oB a+i*sz+o,none⟩))):=by kernel_rfl) (hb:aggB Tryz.prog t=some false:=by kernel_rfl):Sy.GoodQ Tryz.prog B w0 γ0 nt Q q:=
 q_val _ hh (fun W hk=>load_sl h hb i o hv hk) hg
theorem gD (t:TypeId) (m:Nat) (cs:List Value) (i o:Nat) (h:SlAt B w0 a n sz xs) (hm:cs.length=m) (hc:∀ j v,cs[j]?=some v→xs[i*sz+o+j]?=some v) (hg:Sy.Good Tryz.prog B w0 γ0 nt Q (nx0 g (norm (.agg cs.toArray))))
  (hh:hdSem Tryz.prog nt g=some (Instr.loadAt t (.pointer (some ⟨gB a,oB a+i*sz+o,none⟩))):=by kernel_rfl) (hb:aggB Tryz.prog t=some true:=by kernel_rfl) (hs:szB Tryz.prog t=some m:=by kernel_rfl):Sy.Good Tryz.prog B w0 γ0 nt Q g:=
 good_val _ hh (fun W hk=>load_slA h hb hs i o hm hc hk) hg
theorem qD (t:TypeId) (m:Nat) (cs:List Value) (i o:Nat) (h:SlAt B w0 a n sz xs) (hm:cs.length=m) (hc:∀ j v,cs[j]?=some v→xs[i*sz+o+j]?=some v) (hg:Sy.GoodQ Tryz.prog B w0 γ0 nt Q (qNx q (norm (.agg cs.toArray))))
  (hh:qSem Tryz.prog nt q=some (Instr.loadAt t (.pointer (some ⟨gB a,oB a+i*sz+o,none⟩))):=by kernel_rfl) (hb:aggB Tryz.prog t=some true:=by kernel_rfl) (hs:szB Tryz.prog t=some m:=by kernel_rfl):Sy.GoodQ Tryz.prog B w0 γ0 nt Q q:=
 q_val _ hh (fun W hk=>load_slA h hb hs i o hm hc hk) hg
end
end Go.Proofs.YtiacalnkmnckjaaGreatDoor
end
namespace Go.Proofs.YtiacalnkmnckjaaGreatDoor
open Go.RowKit Go.As
section
noncomputable def gz:Nat:=Tryz.prog.globals.size
inductive Ex where
 | mk (op ty bits:Int) (name:List UInt8) (kids:List Ex)
def Ex.kids:Ex→List Ex
 | .mk _ _ _ _ k=>k
mutual
def wgt:Ex→Nat
 | .mk _ _ _ _ k=>wgts k+1
def wgts:List Ex→Nat
 | []=>0
 | e::l=>wgt e+wgts l
end
theorem wgts_app:∀ (l r:List Ex),wgts (l++r)=wgts l+wgts r
 | [],r=>by simp [wgts]
 | e::l,r=>by
   rw [List.cons_append]
   simp only [wgts]
   rw [wgts_app l r]
   omega
theorem wgt_pos (e:Ex):0<wgt e:=by cases e;simp only [wgt];omega
theorem wgts_len:∀ (l:List Ex),l.length≤wgts l
 | []=>Nat.zero_le _
 | e::l=>by
   have:=wgts_len l
   have:=wgt_pos e
   simp only [wgts,List.length_cons]
   omega
mutual
def ExAt (F:Nat→Prop) (w:World):Ex→List Value→Prop
 | .mk op ty bits name kids,cs=>∃ a cap xs,cs=[.int .u8 op,.int .u8 ty,.int .u64 bits,.string (str name),.slice a kids.length cap]∧Sy.SlAt F w a kids.length 5 xs∧ExsAt F w kids xs
def ExsAt (F:Nat→Prop) (w:World):List Ex→List Value→Prop
 | [],xs=>xs=[]
 | e::l,xs=>∃ c r,xs=c++r∧ExAt F w e c∧ExsAt F w l r
end
theorem ExAt.len {F:Nat→Prop} {w:World} {e:Ex} {cs:List Value} (h:ExAt F w e cs):cs.length=5:=by
 cases e
 simp only [ExAt] at h
 obtain ⟨a,cap,xs,rfl,_⟩:=h
 rfl
mutual
theorem ExAt.keep {F F':Nat→Prop} {w w':World} (hk:Sy.Keep F w w') (hF:∀ k,F k→F' k):∀ {e:Ex} {cs:List Value},ExAt F w e cs→ExAt F' w' e cs
 | .mk op ty bits name kids,cs,h=>by
   simp only [ExAt] at h ⊢
   obtain ⟨a,cap,xs,h1,h2,h3⟩:=h
   exact ⟨a,cap,xs,h1,(h2.keep hk).mono hF,ExsAt.keep hk hF h3⟩
theorem ExsAt.keep {F F':Nat→Prop} {w w':World} (hk:Sy.Keep F w w') (hF:∀ k,F k→F' k):∀ {l:List Ex} {xs:List Value},ExsAt F w l xs→ExsAt F' w' l xs
 | [],xs,h=>by simp only [ExsAt] at h ⊢;exact h
 | e::l,xs,h=>by
   simp only [ExsAt] at h ⊢
   obtain ⟨c,r,h1,h2,h3⟩:=h
   exact ⟨c,r,h1,ExAt.keep hk hF h2,ExsAt.keep hk hF h3⟩
end
theorem ExsAt.at_ {F:Nat→Prop} {w:World}:∀ {l1:List Ex} {e:Ex} {l3:List Ex} {xs:List Value},ExsAt F w (l1++e::l3) xs→∃ c,ExAt F w e c∧∀ j v,c[j]?=some v→xs[l1.length*5+j]?=some v
 | [],e,l3,xs,h=>by
   simp only [List.nil_append,ExsAt] at h
   obtain ⟨c,r,rfl,h2,_⟩:=h
   refine ⟨c,h2,fun j v hv=>?_⟩
   rw [List.length_nil,Nat.zero_mul,Nat.zero_add,List.getElem?_append_left (List.getElem?_eq_some_iff.1 hv).1]
   exact hv
 | x::l1,e,l3,xs,h=>by
   simp only [List.cons_append,ExsAt] at h
   obtain ⟨c,r,rfl,h2,h3⟩:=h
   obtain ⟨c',h4,h5⟩:=ExsAt.at_ h3
   refine ⟨c',h4,fun j v hv=>?_⟩
   have hl:=h2.len
   rw [List.length_cons,List.getElem?_append_right (by omega),show (l1.length+1)*5+j - c.length=l1.length*5+j by omega]
   exact h5 j v hv
open Go.Sy in
set_option maxRecDepth 100000 in
theorem weight_any:∀ (N:Nat) (e:Ex) (cs:List Value) (w:World),wgt e≤N→wgt e≤1099511627776→ExAt (·<w.heap.size) w e cs→
  CB 13 #[.agg cs.toArray] w (nI (wgt e:Nat)):=by
 intro N
 induction N with
 | zero=>intro e cs w h;have:=wgt_pos e;omega
 | succ N ihN=>
   intro e cs w hN hbd hat
   obtain ⟨op,ty,bits,name,kids⟩:=e
   simp only [ExAt] at hat
   obtain ⟨a,cap,xs,rfl,hsl,hks⟩:=hat
   simp only [wgt] at hN hbd
   obtain ⟨n,hn⟩:∃ n,n=kids.length:=⟨_,rfl⟩
   have hnl:=wgts_len kids
   rw [← hn] at hsl hnl ⊢
   refine eN [xV op ty bits name a n cap] Tryz.func13 (fun γ0 hγ0=>?_)
   refine rk ?_
   refine good_toLp ?_
   refine good_loopI (fun i:List Ex×List Ex=>i.2.length) (fun i=>kids=i.1++i.2) (fun i=>⟨mkT [(1,.ptr gz 0),(3,vI ((wgts i.1+1:Nat):Int)),(4,vI (i.1.length:Int))],mkH [(gz,bK 34 5 [.v (.int .u8 op),.v (.int .u8 ty),.v (.int .u64 bits),vT name,vL a n cap])],gz+1,[]⟩)
    ([],kids) rfl (by kernel_rfl)
    (fun h=>gU _ [(1,.ptr gz 0),(3,vI ((wgts []+1:Nat):Int)),(4,vI (([]:List Ex).length:Int))] [(gz,bK 34 5 [.v (.int .u8 op),.v (.int .u8 ty),.v (.int .u64 bits),vT name,vL a n cap])] (gz+1) (fun b hb=>hγ0 b (Nat.le_trans (Nat.le_succ _) hb)) h) ?_
   rintro ⟨l1,l2⟩ hI ih
   have hI:kids=l1++l2:=hI
   have hn2:n=l1.length+l2.length:=by rw [hn,hI,List.length_append]
   have hw1:wgts kids=wgts l1+wgts l2:=by rw [hI,wgts_app]
   refine rk ?_
   cases l2 with
   | nil=>
     have hn3:n=l1.length:=by rw [hn2];simp
     refine ky (l1.length:Int) (n:Int) (by omega) ?_
     refine rk ?_
     refine gR (nI ((wgts l1+1:Nat):Int)) (fun W hk=>⟨?_,hk.below⟩)
     simp only [wgt]
     rw [hw1]
     simp [wgts]
   | cons e l3=>
     have hin:l1.length<n:=by rw [hn2,List.length_cons];omega
     have hks2:=hks
     rw [hI] at hks2
     obtain ⟨c,hc,hcell⟩:=hks2.at_
     have hcl:=hc.len
     simp only [wgts] at hw1
     have hwe:=wgt_pos e
     refine kx (l1.length:Int) (n:Int) (by omega) ?_
     refine rk ?_
     refine gI 32 34 cap l1.length hsl hin ?_
     refine rk ?_
     have hld:=fun W hk=>load_slA (P:=Tryz.prog) (ty:=34) (m:=5) (cs:=c) hsl (by kernel_rfl) (by kernel_rfl) l1.length 0 hcl hcell (W:=W) hk
     have hcall:=fun W hk=>ihN e c W (by omega) (by omega) (hc.keep hk (kU hk))
     obtain ⟨op2,ty2,bits2,name2,kids2⟩:=e
     simp only [ExAt] at hc
     obtain ⟨a2,cap2,xs2,rfl,_⟩:=hc
     refine gV (xV op2 ty2 bits2 name2 a2 kids2.length cap2) (S:=Instr.loadAt 34 (.pointer (some ⟨gB a,oB a+l1.length*5+0,none⟩))) (fun W hk=>hld W hk) ?_
     refine gX [xV op2 ty2 bits2 name2 a2 kids2.length cap2] (nI (wgt (.mk op2 ty2 bits2 name2 kids2):Nat)) (fun W hk=>hcall W hk) ?_
     refine rk ?_
     have hs1:wgts (l1++[Ex.mk op2 ty2 bits2 name2 kids2])=wgts l1+wgt (.mk op2 ty2 bits2 name2 kids2):=by rw [wgts_app];simp [wgts]
     refine gS 3 (x:=nI (wrapF .i64 (((wgts l1+1:Nat):Int)+((wgt (.mk op2 ty2 bits2 name2 kids2):Nat):Int)))) (nI ((wgts (l1++[Ex.mk op2 ty2 bits2 name2 kids2])+1:Nat):Int)) (by rw [wr64 (by omega) (by omega)];congr 1;omega) ?_
     refine gS 4 (x:=nI (wrapF .i64 ((l1.length:Int)+1))) (nI ((l1++[Ex.mk op2 ty2 bits2 name2 kids2]).length:Nat)) (by rw [wr64 (by omega) (by omega)];congr 1;simp) ?_
     exact gU _ [(1,.ptr gz 0),(3,vI ((wgts (l1++[Ex.mk op2 ty2 bits2 name2 kids2])+1:Nat):Int)),(4,vI ((l1++[Ex.mk op2 ty2 bits2 name2 kids2]).length:Nat))] [(gz,bK 34 5 [.v (.int .u8 op),.v (.int .u8 ty),.v (.int .u64 bits),vT name,vL a n cap])] (gz+1) (fun b hb=>hγ0 b (Nat.le_trans (Nat.le_succ _) hb))
      (ih (l1++[Ex.mk op2 ty2 bits2 name2 kids2],l3) (by show kids=(l1++[_])++l3;rw [hI];simp) lS1)
end
section
def NewIn (w w':World) (k:Nat):Prop:=w.heap.size≤k∧k<w'.heap.size
theorem ExsAt.snoc {F:Nat→Prop} {w:World} {e:Ex} {c:List Value}:∀ {l:List Ex} {xs:List Value},ExsAt F w l xs→ExAt F w e c→ExsAt F w (l++[e]) (xs++c)
 | [],xs,h,hc=>by
   simp only [ExsAt] at h
   subst h
   simp only [List.nil_append,ExsAt]
   exact ⟨c,[],by simp,hc,rfl⟩
 | x::l,xs,h,hc=>by
   simp only [ExsAt] at h
   obtain ⟨c1,r,rfl,h2,h3⟩:=h
   simp only [List.cons_append,ExsAt]
   exact ⟨c1,r++c,by simp,h2,ExsAt.snoc h3 hc⟩
theorem VR_agg5 {γ:Sy.Gm} {a b c d:Value} {e:Sy.AV} {v:Value} (h:Sy.VR γ (.agg [.v a,.v b,.v c,.v d,e]) v):∃ x,v = .agg #[a,b,c,d,x]∧Sy.VR γ e x:=by
 cases h with
 | agg hl hh=>
   rename_i vs
   obtain ⟨l⟩:=vs
   match l,hl with
   | [x1,x2,x3,x4,x5],_=>
     have h1:=hh 0 _ x1 rfl rfl
     have h2:=hh 1 _ x2 rfl rfl
     have h3:=hh 2 _ x3 rfl rfl
     have h4:=hh 3 _ x4 rfl rfl
     cases h1;cases h2;cases h3;cases h4
     exact ⟨x5,rfl,hh 4 _ x5 rfl rfl⟩
structure CpI where
 l1:List Ex
 l2:List Ex
 xs:List Value
 X:Sy.AV
 ob:Option Sy.Blk
end
section
mutual
def hgt:Ex→Nat
 | .mk _ _ _ _ k=>hgts k+1
def hgts:List Ex→Nat
 | []=>0
 | e::l=>max (hgt e) (hgts l)
end
theorem hgts_app:∀ (l r:List Ex),hgts (l++r)=max (hgts l) (hgts r)
 | [],r=>by simp [hgts]
 | e::l,r=>by
   rw [List.cons_append]
   simp only [hgts]
   rw [hgts_app l r,Nat.max_assoc]
theorem hgts_snoc (l:List Ex) (e:Ex):hgts (l++[e])=max (hgts l) (hgt e):=by rw [hgts_app];simp [hgts]
mutual
theorem hgt_le:∀ (e:Ex),hgt e≤wgt e
 | .mk _ _ _ _ k=>by simp only [hgt,wgt];have:=hgts_le k;omega
theorem hgts_le:∀ (l:List Ex),hgts l≤wgts l
 | []=>Nat.le_refl _
 | e::l=>by simp only [hgts,wgts];have:=hgts_le l;have:=hgt_le e;omega
end
end
section
theorem valueGuard:Tryz.prog.eqGuardType Tryz.prog.depth 31=false:=by kernel_rfl
def vEq (a b c d:Int):Bool:=Sy.intEq a c&&Sy.intEq b d
theorem run_eqi_value (a b c d:Int) (k:Nat) (w:World):
  (Op.equalIn (k+2) 31 (.agg #[.int .u8 a,.int .u64 b]) (.agg #[.int .u8 c,.int .u64 d])).run Tryz.prog w = .ok (vEq a b c d) w:=by
 have h0:Tryz.prog.underlying 31=some (.struct (Tryz.prog.fieldsOf 31)):=by rw [Program.fieldsOf,Tryz.underlying31]
 rw [run_equalIn_agg w (k+1) _ _ _ h0 (by kernel_rfl)]
 have h1:=run_equalIn_int (P:=Tryz.prog) w k 28 .u8 .u8 a c Tryz.underlying28
 have h2:=run_equalIn_int (P:=Tryz.prog) w k 29 .u64 .u64 b d Tryz.underlying29
 rw [Program.fieldsOf,Tryz.underlying31]
 unfold vEq
 rw [Sy.intEq_eq,Sy.intEq_eq]
 go_simp
 by_cases ha:a=c <;> by_cases hb:b=d <;> simp [ha,hb]
theorem _root_.Go.Sy.eqG2 {P:Program} {w:World} {m:Sem Unit} {n:Sem Value} {r:Value} (h1:m.run P w = .ok () w) (h2:n.run P w = .ok r w):(do m;n:Sem Value).run P w = .ok r w:=by
 rw [Sem.run_bind,h1]
 exact h2
end
section
def LsAt {α:Type} (A:α→List Value→Prop):List α→List Value→Prop
 | [],xs=>xs=[]
 | e::l,xs=>∃ c r,xs=c++r∧A e c∧LsAt A l r
theorem LsAt.imp {α:Type} {A A':α→List Value→Prop} (h:∀ e c,A e c→A' e c):∀ {l:List α} {xs:List Value},LsAt A l xs→LsAt A' l xs
 | [],xs,hx=>hx
 | e::l,xs,⟨c,r,h1,h2,h3⟩=>⟨c,r,h1,h e c h2,LsAt.imp h h3⟩
theorem LsAt.snoc {α:Type} {A:α→List Value→Prop} {e:α} {c:List Value}:∀ {l:List α} {xs:List Value},LsAt A l xs→A e c→LsAt A (l++[e]) (xs++c)
 | [],xs,h,hc=>by
   obtain rfl:xs=[]:=h
   exact ⟨c,[],by simp,hc,rfl⟩
 | x::l,xs,⟨c1,r,h1,h2,h3⟩,hc=>⟨c1,r++c,by rw [h1];simp,h2,LsAt.snoc h3 hc⟩
theorem LsAt.at_ {α:Type} {A:α→List Value→Prop} {k:Nat} (hk:∀ e c,A e c→c.length=k):∀ {l1:List α} {e:α} {l3:List α} {xs:List Value},LsAt A (l1++e::l3) xs→∃ c,A e c∧∀ j v,c[j]?=some v→xs[l1.length*k+j]?=some v
 | [],e,l3,xs,⟨c,r,h1,h2,h3⟩=>by
   subst h1
   refine ⟨c,h2,fun j v hv=>?_⟩
   rw [List.length_nil,Nat.zero_mul,Nat.zero_add,List.getElem?_append_left (List.getElem?_eq_some_iff.1 hv).1]
   exact hv
 | x::l1,e,l3,xs,⟨c,r,h1,h2,h3⟩=>by
   subst h1
   obtain ⟨c',h4,h5⟩:=LsAt.at_ hk h3
   refine ⟨c',h4,fun j v hv=>?_⟩
   have hl:=hk _ _ h2
   rw [List.length_cons,Nat.succ_mul,List.getElem?_append_right (by omega),show l1.length*k+k+j - c.length=l1.length*k+j by omega]
   exact h5 j v hv
theorem ls_split {α:Type} (l:List α) (i:Nat) (h:i<l.length):∃ l1 e l3,l=l1++e::l3∧l1.length=i:=
 ⟨l.take i,l[i],l.drop (i+1),by rw [← List.drop_eq_getElem_cons h,List.take_append_drop],by rw [List.length_take];omega⟩
theorem cell_part {c xs:List Value} {b:Nat} (h:∀ j v,c[j]?=some v→xs[b+j]?=some v) (o:Nat) {m:List Value} (hm:∀ j v,m[j]?=some v→c[o+j]?=some v):∀ j v,m[j]?=some v→xs[b+o+j]?=some v:=fun j v hv=>by
 rw [Nat.add_assoc]
 exact h _ _ (hm j v hv)
theorem mid_get (p m q:List Value):∀ j v,m[j]?=some v→(p++m++q)[p.length+j]?=some v:=fun j v hv=>by
 have hj:=(List.getElem?_eq_some_iff.1 hv).1
 rw [List.append_assoc,List.getElem?_append_right (by omega),show p.length+j - p.length=j by omega,List.getElem?_append_left hj]
 exact hv
inductive St where
 | mk (kind:Int) (name:List UInt8) (e:Ex) (body els:List St)
mutual
def swt:St→Nat
 | .mk _ _ e b l=>1+wgt e+swts b+swts l
def swts:List St→Nat
 | []=>0
 | s::l=>swt s+swts l
end
theorem swts_app:∀ (l r:List St),swts (l++r)=swts l+swts r
 | [],r=>by simp [swts]
 | e::l,r=>by
   rw [List.cons_append]
   simp only [swts]
   rw [swts_app l r]
   omega
theorem swt_pos (s:St):0<swt s:=by cases s;simp only [swt];omega
theorem swts_len:∀ (l:List St),l.length≤swts l
 | []=>Nat.zero_le _
 | e::l=>by
   have:=swts_len l
   have:=swt_pos e
   simp only [swts,List.length_cons]
   omega
mutual
def StAt (F:Nat→Prop) (w:World):St→List Value→Prop
 | .mk kind name e body els,cs=>∃ ec a cap xs b cap2 ys,cs = .int .i64 kind :: .string (str name)::(ec++[.slice a body.length cap,.slice b els.length cap2])∧ExAt F w e ec∧Sy.SlAt F w a body.length 9 xs∧StsAt F w body xs∧Sy.SlAt F w b els.length 9 ys∧StsAt F w els ys
def StsAt (F:Nat→Prop) (w:World):List St→List Value→Prop
 | [],xs=>xs=[]
 | e::l,xs=>∃ c r,xs=c++r∧StAt F w e c∧StsAt F w l r
end
theorem StsAt_ls {F:Nat→Prop} {w:World}:∀ {l:List St} {xs:List Value},StsAt F w l xs↔LsAt (StAt F w) l xs
 | [],xs=>by simp only [StsAt,LsAt]
 | e::l,xs=>by
   simp only [StsAt,LsAt]
   exact ⟨fun ⟨c,r,h1,h2,h3⟩=>⟨c,r,h1,h2,StsAt_ls.1 h3⟩,fun ⟨c,r,h1,h2,h3⟩=>⟨c,r,h1,h2,StsAt_ls.2 h3⟩⟩
theorem ExsAt_ls {F:Nat→Prop} {w:World}:∀ {l:List Ex} {xs:List Value},ExsAt F w l xs↔LsAt (ExAt F w) l xs
 | [],xs=>by simp only [ExsAt,LsAt]
 | e::l,xs=>by
   simp only [ExsAt,LsAt]
   exact ⟨fun ⟨c,r,h1,h2,h3⟩=>⟨c,r,h1,h2,ExsAt_ls.1 h3⟩,fun ⟨c,r,h1,h2,h3⟩=>⟨c,r,h1,h2,ExsAt_ls.2 h3⟩⟩
theorem StAt.len {F:Nat→Prop} {w:World} {s:St} {cs:List Value} (h:StAt F w s cs):cs.length=9:=by
 cases s
 simp only [StAt] at h
 obtain ⟨ec,a,cap,xs,b,cap2,ys,rfl,h2,_⟩:=h
 have:=h2.len
 simp [this]
mutual
theorem StAt.keep {F F':Nat→Prop} {w w':World} (hk:Sy.Keep F w w') (hF:∀ k,F k→F' k):∀ {s:St} {cs:List Value},StAt F w s cs→StAt F' w' s cs
 | .mk kind name e body els,cs,h=>by
   simp only [StAt] at h ⊢
   obtain ⟨ec,a,cap,xs,b,cap2,ys,h1,h2,h3,h4,h5,h6⟩:=h
   exact ⟨ec,a,cap,xs,b,cap2,ys,h1,h2.keep hk hF,(h3.keep hk).mono hF,StsAt.keep hk hF h4,(h5.keep hk).mono hF,StsAt.keep hk hF h6⟩
theorem StsAt.keep {F F':Nat→Prop} {w w':World} (hk:Sy.Keep F w w') (hF:∀ k,F k→F' k):∀ {l:List St} {xs:List Value},StsAt F w l xs→StsAt F' w' l xs
 | [],xs,h=>by simp only [StsAt] at h ⊢;exact h
 | e::l,xs,h=>by
   simp only [StsAt] at h ⊢
   obtain ⟨c,r,h1,h2,h3⟩:=h
   exact ⟨c,r,h1,StAt.keep hk hF h2,StsAt.keep hk hF h3⟩
end
theorem StsAt.at_ {F:Nat→Prop} {w:World} {l1:List St} {e:St} {l3:List St} {xs:List Value} (h:StsAt F w (l1++e::l3) xs):∃ c,StAt F w e c∧∀ j v,c[j]?=some v→xs[l1.length*9+j]?=some v:=
 LsAt.at_ (fun _ _ h=>h.len) (StsAt_ls.1 h)
structure Vr where
 name:List UInt8
 ty:Int
 bits:Int
def VrAt (v:Vr) (cs:List Value):Prop:=cs=[.string (str v.name),.int .u8 v.ty,.int .u64 v.bits]
theorem VrAt.len {v:Vr} {cs:List Value} (h:VrAt v cs):cs.length=3:=by rw [h];rfl
def TxAt (s:List UInt8) (cs:List Value):Prop:=cs=[.string (str s)]
theorem TxAt.len {v:List UInt8} {cs:List Value} (h:TxAt v cs):cs.length=1:=by rw [h];rfl
structure Th where
 name:List UInt8
 locals:List Vr
 body:List St
def ThAt (F:Nat→Prop) (w:World) (t:Th) (cs:List Value):Prop:=
 ∃ a cap xs b cap2 ys,cs=[.string (str t.name),.slice a t.locals.length cap,.slice b t.body.length cap2]∧Sy.SlAt F w a t.locals.length 3 xs∧LsAt VrAt t.locals xs∧Sy.SlAt F w b t.body.length 9 ys∧StsAt F w t.body ys
theorem ThAt.len {F:Nat→Prop} {w:World} {t:Th} {cs:List Value} (h:ThAt F w t cs):cs.length=3:=by
 obtain ⟨a,cap,xs,b,cap2,ys,rfl,_⟩:=h;rfl
theorem ThAt.keep {F F':Nat→Prop} {w w':World} (hk:Sy.Keep F w w') (hF:∀ k,F k→F' k) {t:Th} {cs:List Value} (h:ThAt F w t cs):ThAt F' w' t cs:=by
 obtain ⟨a,cap,xs,b,cap2,ys,h1,h2,h3,h4,h5⟩:=h
 exact ⟨a,cap,xs,b,cap2,ys,h1,(h2.keep hk).mono hF,h3,(h4.keep hk).mono hF,h5.keep hk hF⟩
structure Pg where
 shared:List Vr
 mutexes:List (List UInt8)
 threads:List Th
def PgAt (F:Nat→Prop) (w:World) (p:Pg) (cs:List Value):Prop:=
 ∃ a cap xs b cap2 ys d cap3 zs,cs=[.slice a p.shared.length cap,.slice b p.mutexes.length cap2,.slice d p.threads.length cap3]∧Sy.SlAt F w a p.shared.length 3 xs∧LsAt VrAt p.shared xs∧Sy.SlAt F w b p.mutexes.length 1 ys∧LsAt TxAt p.mutexes ys∧Sy.SlAt F w d p.threads.length 3 zs∧LsAt (ThAt F w) p.threads zs
theorem PgAt.keep {F F':Nat→Prop} {w w':World} (hk:Sy.Keep F w w') (hF:∀ k,F k→F' k) {p:Pg} {cs:List Value} (h:PgAt F w p cs):PgAt F' w' p cs:=by
 obtain ⟨a,cap,xs,b,cap2,ys,d,cap3,zs,h1,h2,h3,h4,h5,h6,h7⟩:=h
 exact ⟨a,cap,xs,b,cap2,ys,d,cap3,zs,h1,(h2.keep hk).mono hF,h3,(h4.keep hk).mono hF,h5,(h6.keep hk).mono hF,h7.imp (fun _ _ h=>h.keep hk hF)⟩
def thw (t:Th):Nat:=1+t.locals.length+swts t.body
def thws:List Th→Nat
 | []=>0
 | t::l=>thw t+thws l
theorem thws_app:∀ (l r:List Th),thws (l++r)=thws l+thws r
 | [],r=>by simp [thws]
 | e::l,r=>by
   rw [List.cons_append]
   simp only [thws]
   rw [thws_app l r]
   omega
theorem thws_len:∀ (l:List Th),l.length≤thws l
 | []=>Nat.zero_le _
 | e::l=>by
   have:=thws_len l
   simp only [thws,List.length_cons,thw]
   omega
def pwt (p:Pg):Nat:=p.shared.length+p.mutexes.length+thws p.threads
end
section
mutual
def flatS (deep:Nat):St→List (St×Nat)
 | .mk k n e b l=>(.mk k n e b l,deep)::(flatL (deep+1) b++flatL (deep+1) l)
def flatL (deep:Nat):List St→List (St×Nat)
 | []=>[]
 | s::l=>flatS deep s++flatL deep l
end
theorem flatL_app (deep:Nat):∀ (l r:List St),flatL deep (l++r)=flatL deep l++flatL deep r
 | [],r=>by simp [flatL]
 | s::l,r=>by
   simp only [List.cons_append,flatL]
   rw [flatL_app deep l r,List.append_assoc]
mutual
theorem flatS_len (deep:Nat):∀ s:St,(flatS deep s).length≤swt s
 | .mk k n e b l=>by
   have h1:=flatL_len (deep+1) b
   have h2:=flatL_len (deep+1) l
   simp only [flatS,swt,List.length_cons,List.length_append]
   omega
theorem flatL_len (deep:Nat):∀ l:List St,(flatL deep l).length≤swts l
 | []=>Nat.le_refl _
 | s::l=>by
   have h1:=flatS_len deep s
   have h2:=flatL_len deep l
   simp only [flatL,swts,List.length_append]
   omega
end
def firstIx (ft:St→Nat→Int):List (St×Nat)→Nat→Option (Int×Nat)
 | [],_=>none
 | (s,d)::l,m=>if ft s d=0 then firstIx ft l (m+1) else some (ft s d,m)
theorem firstIx_app (ft:St→Nat→Int):∀ (a b:List (St×Nat)) (m:Nat),firstIx ft (a++b) m=match firstIx ft a m with
  | some r=>some r
  | none=>firstIx ft b (m+a.length)
 | [],b,m=>rfl
 | (s,d)::a,b,m=>by
   simp only [List.cons_append,firstIx]
   split
   · rw [firstIx_app ft a b (m+1),List.length_cons,show m+1+a.length=m+(a.length+1) by omega]
   · rfl
theorem firstIx_st (ft:St→Nat→Int) (deep:Nat) (k:Int) (n:List UInt8) (e:Ex) (b l:List St) (m:Nat):firstIx ft (flatS deep (.mk k n e b l)) m=
  if ft (.mk k n e b l) deep=0 then (match firstIx ft (flatL (deep+1) b) (m+1) with
   | some r=>some r
   | none=>firstIx ft (flatL (deep+1) l) (m+1+(flatL (deep+1) b).length)) else some (ft (.mk k n e b l) deep,m):=by
 simp only [flatS,firstIx]
 split
 · rw [firstIx_app]
 · rfl
def spotF (ft:St→Nat→Int) (thread:Int) (l:List St):Int×Int×Int:=match firstIx ft (flatL 0 l) 0 with
 | some (e,j)=>(e,thread,(j:Int))
 | none=>(0,-1,-1)
abbrev Spt:=Int×Int×Int
def fineS:Spt:=(0,-1,-1)
def thrF (f:Nat→Th→Spt):Nat→List Th→Spt
 | _,[]=>fineS
 | i,t::l=>if (f i t).1=0 then thrF f (i+1) l else f i t
def spV (s:Spt):Value := .agg #[.int .i64 s.1,.int .i64 s.2.1,.int .i64 s.2.2]
end
section
set_option maxRecDepth 100000
open Go.Sy
theorem weightStmts_any:∀ (N:Nat) (l:List St) (a:Option Addr) (n cap:Nat) (xs:List Value) (w:World),n=l.length→swts l<N→swts l≤1099511627776→Sy.SlAt (·<w.heap.size) w a n 9 xs→StsAt (·<w.heap.size) w l xs→
  CB 114 #[.slice a n cap] w (nI (swts l:Nat)):=by
 intro N
 induction N with
 | zero=>
   intro l a n cap xs w hn h
   omega
 | succ N ihN=>
   intro l a n cap xs w hn hN hbd hsl hks
   have hnl:=swts_len l
   refine eN [.slice a n cap] Tryz.func114 (fun γ0 hγ0=>?_)
   refine rk ?_
   refine good_toLp ?_
   refine good_loopI (fun i:List St×List St=>i.2.length) (fun i=>l=i.1++i.2) (fun i=>⟨mkT [(0,vL a n cap),(3,vI ((swts i.1:Nat):Int)),(4,vI (i.1.length:Int))],mkH [],gz,[]⟩)
    ([],l) rfl (by kernel_rfl)
    (fun h=>gU _ [(0,vL a n cap),(3,vI ((swts ([]:List St):Nat):Int)),(4,vI (([]:List St).length:Int))] [] gz (fun b hb=>hγ0 b hb) h) ?_
   rintro ⟨l1,l2⟩ hI ih
   have hI:l=l1++l2:=hI
   have hn2:n=l1.length+l2.length:=by rw [hn,hI,List.length_append]
   have hw1:swts l=swts l1+swts l2:=by rw [hI,swts_app]
   refine rk ?_
   cases l2 with
   | nil=>
     have hn3:n=l1.length:=by rw [hn2];simp
     refine ky (l1.length:Int) (n:Int) (by omega) ?_
     refine rk ?_
     refine gR (nI ((swts l1:Nat):Int)) (fun W hk=>⟨?_,hk.below⟩)
     rw [hw1]
     simp [swts]
   | cons s l3=>
     have hin:l1.length<n:=by rw [hn2,List.length_cons];omega
     have hks2:=hks
     rw [hI] at hks2
     obtain ⟨c,hc,hcell⟩:=hks2.at_
     simp only [swts] at hw1
     obtain ⟨kind,sname,⟨eop,ety,ebits,ename,ekids⟩,body,els⟩:=s
     simp only [StAt] at hc
     obtain ⟨ec,ba,bcap,bxs,la,lcap,lxs,rfl,he,hbs,hbt,hls,hlt⟩:=hc
     have he0:=he
     simp only [ExAt] at he0
     obtain ⟨ea,ecap,exs,rfl,_⟩:=he0
     have hcell:∀ j v,((yL kind sname eop ety ebits ename ea ekids.length ecap ba body.length bcap la els.length lcap):List Value)[j]?=some v→xs[l1.length*9+j]?=some v:=hcell
     have hmid:∀ j v,((xL eop ety ebits ename ea ekids.length ecap):List Value)[j]?=some v→xs[l1.length*9+2+j]?=some v:=cell_part hcell 2 (mid_get [_,_] (xL eop ety ebits ename ea ekids.length ecap) [_,_])
     simp only [swt] at hw1
     refine kx (l1.length:Int) (n:Int) (by omega) ?_
     refine rk ?_
     refine good_draw sy_mixed (by kernel_rfl) ?_
     refine q_run [] 60 ?_
     refine qI 54 56 cap l1.length hsl hin ?_
     refine q_run [] 60 ?_
     refine qD 34 5 (xL eop ety ebits ename ea ekids.length ecap) l1.length 2 hsl rfl hmid ?_
     refine q_run [] 60 ?_
     refine qB [xV eop ety ebits ename ea ekids.length ecap] (nI (wgt (.mk eop ety ebits ename ekids):Nat)) (fun W hk=>weight_any _ (.mk eop ety ebits ename ekids) (xL eop ety ebits ename ea ekids.length ecap) W (Nat.le_refl _) (by omega) (he.keep hk (kU hk))) ?_
     refine q_run [] 60 ?_
     refine qI 54 56 cap l1.length hsl hin ?_
     refine q_run [] 60 ?_
     refine qL 54 (.slice ba body.length bcap) l1.length 7 hsl (hcell 7 _ rfl) ?_
     refine q_run [] 60 ?_
     refine qB [.slice ba body.length bcap] (nI (swts body:Nat)) (fun W hk=>ihN body _ _ _ _ W rfl (by omega) (by omega) ((hbs.keep hk).mono (kU hk)) (hbt.keep hk (kU hk))) ?_
     refine q_run [] 60 ?_
     refine qI 54 56 cap l1.length hsl hin ?_
     refine q_run [] 60 ?_
     refine qL 54 (.slice la els.length lcap) l1.length 8 hsl (hcell 8 _ rfl) ?_
     refine q_run [] 60 ?_
     refine qB [.slice la els.length lcap] (nI (swts els:Nat)) (fun W hk=>ihN els _ _ _ _ W rfl (by omega) (by omega) ((hls.keep hk).mono (kU hk)) (hlt.keep hk (kU hk))) ?_
     refine q_run [] 60 ?_
     refine qE ?_
     refine rk ?_
     have hs1:swts (l1++[(St.mk kind sname (.mk eop ety ebits ename ekids) body els)])=swts l1+(1+wgt (.mk eop ety ebits ename ekids)+swts body+swts els):=by rw [swts_app];simp [swts,swt]
     refine gS 3 (x:=nI (wrapF .i64 (wrapF .i64 (wrapF .i64 (wrapF .i64 (((swts l1:Nat):Int)+1)+((wgt (.mk eop ety ebits ename ekids):Nat):Int))+((swts body:Nat):Int))+((swts els:Nat):Int)))) (nI (((swts (l1++[(St.mk kind sname (.mk eop ety ebits ename ekids) body els)]):Nat):Int))) (by rw [wr64 (n:=((swts l1:Nat):Int)+1) (by omega) (by omega),wr64 (n:=((swts l1:Nat):Int)+1+((wgt (.mk eop ety ebits ename ekids):Nat):Int)) (by omega) (by omega),wr64 (n:=((swts l1:Nat):Int)+1+((wgt (.mk eop ety ebits ename ekids):Nat):Int)+((swts body:Nat):Int)) (by omega) (by omega),wr64 (n:=((swts l1:Nat):Int)+1+((wgt (.mk eop ety ebits ename ekids):Nat):Int)+((swts body:Nat):Int)+((swts els:Nat):Int)) (by omega) (by omega)];congr 1;omega) ?_
     refine gJ 4 l1 (St.mk kind sname (.mk eop ety ebits ename ekids) body els) (by omega) ?_
     exact gU _ [(0,vL a n cap),(3,vI ((swts (l1++[(St.mk kind sname (.mk eop ety ebits ename ekids) body els)]):Nat):Int)),(4,vI ((l1++[(St.mk kind sname (.mk eop ety ebits ename ekids) body els)]).length:Int))] [] gz (fun b hb=>hγ0 b hb) (ih (l1++[(St.mk kind sname (.mk eop ety ebits ename ekids) body els)],l3) (by show l=(l1++[_])++l3;rw [hI];simp) lS1)
theorem weightProgram_any (p:Pg) (cs:List Value) (w:World) (hbd:pwt p≤1099511627776) (hp:PgAt (·<w.heap.size) w p cs):
  CB 48 #[.agg cs.toArray] w (nI (pwt p:Nat)):=by
 obtain ⟨a,cap,xs,b,cap2,ys,d,cap3,zs,rfl,hxs,hxt,hys,hyt,hzs,hzt⟩:=hp
 obtain ⟨ns,hns⟩:∃ n,n=p.shared.length:=⟨_,rfl⟩
 obtain ⟨nm,hnm⟩:∃ n,n=p.mutexes.length:=⟨_,rfl⟩
 obtain ⟨nt,hnt⟩:∃ n,n=p.threads.length:=⟨_,rfl⟩
 obtain ⟨pt,hpt⟩:∃ l,l=p.threads:=⟨_,rfl⟩
 have hbd1:ns+nm+thws pt≤1099511627776:=by rw [hns,hnm,hpt];exact hbd
 rw [← hns] at hxs ⊢
 rw [← hnm] at hys ⊢
 rw [← hnt] at hzs ⊢
 rw [← hpt] at hzt hnt
 have hpw:pwt p=ns+nm+thws pt:=by rw [hns,hnm,hpt];rfl
 have hnl:=thws_len pt
 refine eN [.agg #[.slice a ns cap,.slice b nm cap2,.slice d nt cap3]] Tryz.func48 (fun γ0 hγ0=>?_)
 refine rk ?_
 refine good_toLp ?_
 refine gS 3 (x:=nI (wrapF .i64 (((ns:Nat):Int)+((nm:Nat):Int)))) (nI (((ns+nm+thws ([]:List Th):Nat):Int))) (by rw [wr64 (n:=((ns:Nat):Int)+((nm:Nat):Int)) (by omega) (by omega)];simp [thws]) ?_
 refine good_loopI (fun i:List Th×List Th=>i.2.length) (fun i=>pt=i.1++i.2) (fun i=>⟨mkT [(1,.ptr gz 0),(3,vI ((ns+nm+thws i.1:Nat):Int)),(4,vI ((i.1.length:Nat):Int))],mkH [(gz,bK 26 3 [vL a ns cap,vL b nm cap2,vL d nt cap3])],gz+1,[]⟩)
  ([],pt) rfl (by kernel_rfl)
  (fun h=>gU _ [(1,.ptr gz 0),(3,vI ((ns+nm+thws ([]:List Th):Nat):Int)),(4,vI ((([]:List Th).length:Nat):Int))] [(gz,bK 26 3 [vL a ns cap,vL b nm cap2,vL d nt cap3])] (gz+1) (gA hγ0) h) ?_
 rintro ⟨l1,l2⟩ hI ih
 have hI:pt=l1++l2:=hI
 have hn2:nt=l1.length+l2.length:=by rw [hnt,hI,List.length_append]
 have hw1:thws pt=thws l1+thws l2:=by rw [hI,thws_app]
 refine rk ?_
 cases l2 with
 | nil=>
   have hn3:nt=l1.length:=by rw [hn2];simp
   refine ky (l1.length:Int) (nt:Int) (by omega) ?_
   refine rk ?_
   refine gR (nI ((ns+nm+thws l1:Nat):Int)) (fun W hk=>⟨?_,hk.below⟩)
   rw [hpw,hw1]
   simp [thws]
 | cons s l3=>
   have hin:l1.length<nt:=by rw [hn2,List.length_cons];omega
   have hks2:=hzt
   rw [hI] at hks2
   obtain ⟨c,hc,hcell⟩:=hks2.at_ (fun _ _ h=>h.len)
   simp only [thws] at hw1
   obtain ⟨la,lcap,lxs,ba,bcap,bxs,rfl,hls,hlt,hbs,hbt⟩:=hc
   simp only [thw] at hw1
   refine kx (l1.length:Int) (nt:Int) (by omega) ?_
   refine rk ?_
   refine good_draw sy_mixed (by kernel_rfl) ?_
   refine q_run [] 60 ?_
   refine qI 24 58 cap3 l1.length hzs hin ?_
   refine q_run [] 60 ?_
   refine qL 22 (.slice la s.locals.length lcap) l1.length 1 hzs (hcell 1 _ rfl) ?_
   refine q_run [] 60 ?_
   refine qI 24 58 cap3 l1.length hzs hin ?_
   refine q_run [] 60 ?_
   refine qL 54 (.slice ba s.body.length bcap) l1.length 2 hzs (hcell 2 _ rfl) ?_
   refine q_run [] 60 ?_
   refine qB [.slice ba s.body.length bcap] (nI ((swts s.body:Nat):Int)) (fun W hk=>weightStmts_any _ s.body _ _ _ _ W rfl (Nat.lt_succ_self _) (by omega) ((hbs.keep hk).mono (kU hk)) (hbt.keep hk (kU hk))) ?_
   refine q_run [] 60 ?_
   refine qE ?_
   refine rk ?_
   have hs1:thws (l1++[s])=thws l1+(1+s.locals.length+swts s.body):=by rw [thws_app];simp [thws,thw]
   refine gS 3 (x:=nI (wrapF .i64 (wrapF .i64 (wrapF .i64 (((ns+nm+thws l1:Nat):Int)+1)+((s.locals.length:Nat):Int))+((swts s.body:Nat):Int)))) (nI (((ns+nm+thws (l1++[s]):Nat):Int))) (by rw [wr64 (n:=((ns+nm+thws l1:Nat):Int)+1) (by omega) (by omega),wr64 (n:=((ns+nm+thws l1:Nat):Int)+1+((s.locals.length:Nat):Int)) (by omega) (by omega),wr64 (n:=((ns+nm+thws l1:Nat):Int)+1+((s.locals.length:Nat):Int)+((swts s.body:Nat):Int)) (by omega) (by omega)];congr 1;omega) ?_
   refine gJ 4 l1 s (by omega) ?_
   exact gU _ [(1,.ptr gz 0),(3,vI ((ns+nm+thws (l1++[s]):Nat):Int)),(4,vI (((l1++[s]).length:Nat):Int))] [(gz,bK 26 3 [vL a ns cap,vL b nm cap2,vL d nt cap3])] (gz+1) (gA hγ0) (ih (l1++[s],l3) (by show pt=(l1++[_])++l3;rw [hI];simp) lS1)
end
section
structure CI (α:Type) where
 l1:List α
 l2:List α
 xs:List Value
 X:Sy.AV
 ob:Option Sy.Blk
end
section
theorem VR_agg3 {γ:Sy.Gm} {a b:Value} {e:Sy.AV} {v:Value} (h:Sy.VR γ (.agg [.v a,.v b,e]) v):∃ x,v = .agg #[a,b,x]∧Sy.VR γ e x:=by
 cases h with
 | agg hl hh=>
   rename_i vs
   obtain ⟨l⟩:=vs
   match l,hl with
   | [x1,x2,x3],_=>
     have h1:=hh 0 _ x1 rfl rfl
     have h2:=hh 1 _ x2 rfl rfl
     cases h1;cases h2
     exact ⟨x3,rfl,hh 2 _ x3 rfl rfl⟩
end
section
set_option maxRecDepth 100000
mutual
def siz:St→Nat
 | .mk _ _ _ b l=>sizs b+sizs l+1
def sizs:List St→Nat
 | []=>0
 | s::l=>siz s+sizs l
end
theorem sizs_app:∀ (l r:List St),sizs (l++r)=sizs l+sizs r
 | [],r=>by simp [sizs]
 | e::l,r=>by
   rw [List.cons_append]
   simp only [sizs]
   rw [sizs_app l r]
   omega
mutual
theorem siz_le:∀ (s:St),siz s≤swt s
 | .mk _ _ _ b l=>by simp only [siz,swt];have:=sizs_le b;have:=sizs_le l;omega
theorem sizs_le:∀ (l:List St),sizs l≤swts l
 | []=>Nat.le_refl _
 | s::l=>by simp only [sizs,swts];have:=siz_le s;have:=sizs_le l;omega
end
theorem sizs_len:∀ (l:List St),l.length≤sizs l
 | []=>Nat.zero_le _
 | .mk _ _ _ b r::l=>by
   have:=sizs_len l
   simp only [sizs,siz,List.length_cons]
   omega
def tsiz:List Th→Nat
 | []=>0
 | t::l=>sizs t.body+tsiz l
theorem tsiz_app:∀ (l r:List Th),tsiz (l++r)=tsiz l+tsiz r
 | [],r=>by simp [tsiz]
 | e::l,r=>by
   rw [List.cons_append]
   simp only [tsiz]
   rw [tsiz_app l r]
   omega
theorem tsiz_le:∀ (l:List Th),tsiz l≤thws l
 | []=>Nat.le_refl _
 | t::l=>by simp only [tsiz,thws,thw];have:=sizs_le t.body;have:=tsiz_le l;omega
def bod:St→Nat
 | .mk _ _ _ b l=>sizs b+sizs l
def bods:List St→Nat
 | []=>0
 | s::l=>bod s+bods l
theorem bods_app:∀ (l r:List St),bods (l++r)=bods l+bods r
 | [],r=>by simp [bods]
 | e::l,r=>by
   rw [List.cons_append]
   simp only [bods]
   rw [bods_app l r]
   omega
theorem sizs_bods:∀ (l:List St),l.length+bods l=sizs l
 | []=>rfl
 | .mk _ _ _ b r::l=>by
   have:=sizs_bods l
   simp only [sizs,siz,bods,bod,List.length_cons]
   omega
theorem bods_le (l:List St):bods l≤swts l:=by
 have:=sizs_bods l
 have:=sizs_le l
 omega
open Go.Sy
theorem tsize_any:∀ (N:Nat) (L:List St) (a:Option Addr) (n cap:Nat) (xs:List Value) (w:World),n=L.length→swts L<N→swts L≤1000000000000→SlAt (·<w.heap.size) w a n 9 xs→LsAt (StAt (·<w.heap.size) w) L xs→
  CB 79 #[.slice a n cap] w (nI (sizs L:Nat)):=by
 intro N
 induction N with
 | zero=>intro L a n cap xs w hn h;omega
 | succ N ihN=>
   intro L a n cap xs w hn hN hbd hsl hks
   have hnl:=swts_len L
   refine eN [.slice a n cap] Tryz.func79 (fun γ0 hγ0=>?_)
   refine rk ?_
   refine good_toLp ?_
   refine good_loopI (fun i:List St×List St=>i.2.length) (fun i=>L=i.1++i.2) (fun i=>⟨mkT [(0,vL a n cap),(3,vI ((n+bods i.1:Nat):Int)),(8,vL a n cap),(9,vI (n:Int)),(10,vI ((i.1.length:Nat):Int))],mkH [],gz,[]⟩)
    ([],L) rfl (by kernel_rfl)
    (fun h=>gU _ [(0,vL a n cap),(3,vI ((n+bods ([]:List St):Nat):Int)),(8,vL a n cap),(9,vI (n:Int)),(10,vI ((([]:List St).length:Nat):Int))] [] gz (fun b hb=>hγ0 b hb) h) ?_
   rintro ⟨l1,l2⟩ hI ih
   have hI:L=l1++l2:=hI
   have hn2:n=l1.length+l2.length:=by rw [hn,hI,List.length_append]
   have hw1:bods L=bods l1+bods l2:=by rw [hI,bods_app]
   have hw2:swts L=swts l1+swts l2:=by rw [hI,swts_app]
   refine rk ?_
   cases l2 with
   | nil=>
     have hn3:n=l1.length:=by rw [hn2];simp
     refine ky (l1.length:Int) (n:Int) (by omega) ?_
     refine rk ?_
     refine gR (nI ((n+bods l1:Nat):Int)) (fun W hk=>⟨?_,hk.below⟩)
     have hkl:l1=L:=by rw [hI];simp
     rw [hkl,hn,sizs_bods]
   | cons s l3=>
     have hin:l1.length<n:=by rw [hn2,List.length_cons];omega
     have hks2:=StsAt_ls.2 hks
     rw [hI] at hks2
     obtain ⟨c,hc,hcell⟩:=hks2.at_
     simp only [bods] at hw1
     simp only [swts] at hw2
     obtain ⟨uK,us,⟨uo,ut,uv,un,uk⟩,uB,uL⟩:=s
     simp only [StAt] at hc
     obtain ⟨ucs,uj,uh,ubx,ui,uw,ulx,rfl,uhe,uhbs,uhbt,uhls,uhlt⟩:=hc
     have uhe0:=uhe
     simp only [ExAt] at uhe0
     obtain ⟨uf,ug,uex,rfl,_⟩:=uhe0
     have hcell:∀ j v,((yL uK us uo ut uv un uf uk.length ug uj uB.length uh ui uL.length uw):List Value)[j]?=some v→xs[l1.length*9+j]?=some v:=hcell
     have umid:∀ j v,((xL uo ut uv un uf uk.length ug):List Value)[j]?=some v→xs[l1.length*9+2+j]?=some v:=cell_part hcell 2 (mid_get [_,_] (xL uo ut uv un uf uk.length ug) [_,_])
     simp only [swt] at hw2
     simp only [bod] at hw1
     have hbb:=sizs_le uB
     have hbe:=sizs_le uL
     refine kx (l1.length:Int) (n:Int) (by omega) ?_
     refine rk ?_
     refine gI 54 56 cap l1.length hsl hin ?_
     refine rk ?_
     refine gD 56 9 (yL uK us uo ut uv un uf uk.length ug uj uB.length uh ui uL.length uw) l1.length 0 hsl rfl hcell ?_
     refine rs [] 3 0 ?_
     refine good_draw sy_mixed (by kernel_rfl) ?_
     refine q_run [] 60 ?_
     refine qB [.slice uj uB.length uh] (nI ((sizs uB:Nat):Int)) (fun W hk=>ihN uB _ _ _ _ W rfl (by omega) (by omega) ((uhbs.keep hk).mono (kU hk)) (StsAt_ls.1 (uhbt.keep hk (kU hk)))) ?_
     refine q_run [] 60 ?_
     refine qB [.slice ui uL.length uw] (nI ((sizs uL:Nat):Int)) (fun W hk=>ihN uL _ _ _ _ W rfl (by omega) (by omega) ((uhls.keep hk).mono (kU hk)) (StsAt_ls.1 (uhlt.keep hk (kU hk)))) ?_
     refine q_run [] 60 ?_
     refine qE ?_
     refine rk ?_
     have hs1:bods (l1++[(St.mk uK us (Ex.mk uo ut uv un uk) uB uL)])=bods l1+(sizs uB+sizs uL):=by rw [bods_app];simp [bods,bod]
     have hbl:=bods_le L
     refine gS 3 (x:=nI (wrapF .i64 (((n+bods l1:Nat):Int)+wrapF .i64 (((sizs uB:Nat):Int)+((sizs uL:Nat):Int))))) (nI ((n+bods (l1++[(St.mk uK us (Ex.mk uo ut uv un uk) uB uL)]):Nat):Int)) (by rw [wr64 (n:=((sizs uB:Nat):Int)+((sizs uL:Nat):Int)) (by omega) (by omega),wr64 (n:=((n+bods l1:Nat):Int)+(((sizs uB:Nat):Int)+((sizs uL:Nat):Int))) (by omega) (by omega)];congr 1;omega) ?_
     refine gJ 10 l1 (St.mk uK us (Ex.mk uo ut uv un uk) uB uL) (by omega) ?_
     exact gU _ [(0,vL a n cap),(3,vI ((n+bods (l1++[(St.mk uK us (Ex.mk uo ut uv un uk) uB uL)]):Nat):Int)),(8,vL a n cap),(9,vI (n:Int)),(10,vI (((l1++[(St.mk uK us (Ex.mk uo ut uv un uk) uB uL)]).length:Nat):Int))] [] gz (fun b hb=>hγ0 b hb) (ih (l1++[(St.mk uK us (Ex.mk uo ut uv un uk) uB uL)],l3) (by show L=(l1++[_])++l3;rw [hI];simp) lS1)
theorem tSize_any (p:Pg) (cs:List Value) (w:World) (hbd0:pwt p≤1000000000000) (hp:PgAt (·<w.heap.size) w p cs):
  CB 31 #[.agg cs.toArray] w (nI (tsiz p.threads:Nat)):=by
 obtain ⟨a,cap,xs,b,cap2,ys,d,cap3,zs,rfl,hxs,hxt,hys,hyt,hzs,hzt⟩:=hp
 obtain ⟨ns,hns⟩:∃ n,n=p.shared.length:=⟨_,rfl⟩
 obtain ⟨nm,hnm⟩:∃ n,n=p.mutexes.length:=⟨_,rfl⟩
 obtain ⟨nt,hnt⟩:∃ n,n=p.threads.length:=⟨_,rfl⟩
 have hbd:ns+nm+thws p.threads≤1000000000000:=by rw [hns,hnm];exact hbd0
 have hnl:=thws_len p.threads
 rw [← hns,← hnm,← hnt]
 rw [← hnt] at hzs
 refine eN [.agg #[.slice a ns cap,.slice b nm cap2,.slice d nt cap3]] Tryz.func31 (fun γ0 hγ0=>?_)
 refine rk ?_
 refine good_toLp ?_
 refine good_loopI (fun i:List Th×List Th=>i.2.length) (fun i=>p.threads=i.1++i.2) (fun i=>⟨mkT [(3,vI ((tsiz i.1:Nat):Int)),(7,vL d nt cap3),(8,vI (nt:Int)),(9,vI ((i.1.length:Nat):Int))],mkH [(gz,bK 26 3 [vL a ns cap,vL b nm cap2,vL d nt cap3])],gz+1,[]⟩)
  ([],p.threads) rfl (by kernel_rfl)
  (fun h=>gU _ [(3,vI ((tsiz ([]:List Th):Nat):Int)),(7,vL d nt cap3),(8,vI (nt:Int)),(9,vI ((([]:List Th).length:Nat):Int))] [(gz,bK 26 3 [vL a ns cap,vL b nm cap2,vL d nt cap3])] (gz+1) (gA hγ0) h) ?_
 rintro ⟨l1,l2⟩ hI ih
 have hI:p.threads=l1++l2:=hI
 have hn2:nt=l1.length+l2.length:=by rw [hnt,hI,List.length_append]
 have hw1:thws p.threads=thws l1+thws l2:=by rw [hI,thws_app]
 have hw2:=tsiz_le l1
 refine rk ?_
 cases l2 with
 | nil=>
   have hn3:nt=l1.length:=by rw [hn2];simp
   refine ky (l1.length:Int) (nt:Int) (by omega) ?_
   refine rk ?_
   refine gR (nI ((tsiz l1:Nat):Int)) (fun W hk=>⟨?_,hk.below⟩)
   rw [hI]
   simp
 | cons s l3=>
   have hin:l1.length<nt:=by rw [hn2,List.length_cons];omega
   have hks2:=hzt
   rw [hI] at hks2
   obtain ⟨c,hc,hcell⟩:=hks2.at_ (fun _ _ h=>h.len)
   simp only [thws] at hw1
   obtain ⟨sa,scap,sxs,sb,scap2,sys,rfl,shs,sht,shb,shbt⟩:=hc
   simp only [thw] at hw1
   have hbb:=sizs_le s.body
   refine kx (l1.length:Int) (nt:Int) (by omega) ?_
   refine rk ?_
   refine gI 24 58 cap3 l1.length hzs hin ?_
   refine rk ?_
   refine gD 58 3 [nT s.name,.slice sa s.locals.length scap,.slice sb s.body.length scap2] l1.length 0 hzs rfl hcell ?_
   refine rk ?_
   refine gX [.slice sb s.body.length scap2] (nI ((sizs s.body:Nat):Int)) (fun W hk=>tsize_any _ s.body _ _ _ _ W rfl (Nat.lt_succ_self _) (by omega) ((shb.keep hk).mono (kU hk)) (StsAt_ls.1 (shbt.keep hk (kU hk)))) ?_
   refine rk ?_
   have hs1:tsiz (l1++[s])=tsiz l1+sizs s.body:=by rw [tsiz_app];simp [tsiz]
   refine gS 3 (x:=nI (wrapF .i64 (((tsiz l1:Nat):Int)+((sizs s.body:Nat):Int)))) (nI (((tsiz (l1++[s]):Nat):Int))) (by rw [wr64 (n:=((tsiz l1:Nat):Int)+((sizs s.body:Nat):Int)) (by omega) (by omega)];congr 1;omega) ?_
   refine gJ 9 l1 s (by omega) ?_
   exact gU _ [(3,vI ((tsiz (l1++[s]):Nat):Int)),(7,vL d nt cap3),(8,vI (nt:Int)),(9,vI (((l1++[s]).length:Nat):Int))] [(gz,bK 26 3 [vL a ns cap,vL b nm cap2,vL d nt cap3])] (gz+1) (gA hγ0) (ih (l1++[s],l3) (by show p.threads=(l1++[_])++l3;rw [hI];simp) lS1)
end
section
def nls:List (List UInt8)→Nat
 | []=>0
 | x::l=>x.length+nls l
theorem nls_app:∀ (l r:List (List UInt8)),nls (l++r)=nls l+nls r
 | [],r=>by simp [nls]
 | e::l,r=>by
   rw [List.cons_append]
   simp only [nls]
   rw [nls_app l r]
   omega
def vls:List Vr→Nat
 | []=>0
 | x::l=>x.name.length+vls l
theorem vls_app:∀ (l r:List Vr),vls (l++r)=vls l+vls r
 | [],r=>by simp [vls]
 | e::l,r=>by
   rw [List.cons_append]
   simp only [vls]
   rw [vls_app l r]
   omega
def tls:List Th→Nat
 | []=>0
 | x::l=>x.name.length+vls x.locals+tls l
theorem tls_app:∀ (l r:List Th),tls (l++r)=tls l+tls r
 | [],r=>by simp [tls]
 | e::l,r=>by
   rw [List.cons_append]
   simp only [tls]
   rw [tls_app l r]
   omega
def Lrg (p:Pg):Prop:=40<p.threads.length∨40<p.shared.length∨40<p.mutexes.length∨(∃ t∈p.threads,40<t.locals.length)∨4000<nls p.mutexes+vls p.shared+tls p.threads∨6000<pwt p
noncomputable def lrg (p:Pg):Bool:=@decide (Lrg p) (Classical.propDecidable _)
theorem lrg_t {p:Pg}:lrg p=true↔Lrg p:=by unfold lrg;exact @decide_eq_true_iff _ (Classical.propDecidable _)
theorem lrg_f {p:Pg}:lrg p=false↔¬ Lrg p:=by rw [← Bool.not_eq_true,lrg_t]
theorem lt_of_t {a b:Int} (h:Sy.intLt a b=true):a<b:=by rw [Sy.intLt_eq] at h;exact of_decide_eq_true h
theorem lt_of_f {a b:Int} (h:Sy.intLt a b=false):¬ a<b:=by rw [Sy.intLt_eq] at h;exact of_decide_eq_false h
open Go.Sy in
set_option maxRecDepth 100000 in
theorem large_any (p:Pg) (cs:List Value) (w:World) (hbd0:pwt p≤1000000000000) (hnb:nls p.mutexes+vls p.shared+tls p.threads≤1000000000000) (hp:PgAt (·<w.heap.size) w p cs):
  CB 12 #[.agg cs.toArray] w (.bool (lrg p)):=by
 have hp0:=hp
 obtain ⟨a,cap,xs,b,cap2,ys,d,cap3,zs,rfl,hxs,hxt,hys,hyt,hzs,hzt⟩:=hp
 obtain ⟨ns,hns⟩:∃ n,n=p.shared.length:=⟨_,rfl⟩
 obtain ⟨nm,hnm⟩:∃ n,n=p.mutexes.length:=⟨_,rfl⟩
 obtain ⟨nt,hnt⟩:∃ n,n=p.threads.length:=⟨_,rfl⟩
 have hbd:ns+nm+thws p.threads≤1000000000000:=by rw [hns,hnm];exact hbd0
 have hnl0:=thws_len p.threads
 rw [← hns,← hnm,← hnt] at hp0 ⊢
 rw [← hns] at hxs
 rw [← hnm] at hys
 rw [← hnt] at hzs
 refine eN [.agg #[.slice a ns cap,.slice b nm cap2,.slice d nt cap3]] Tryz.func12 (fun γ0 hγ0=>?_)
 refine rk ?_
 refine good_toLp ?_
 refine good_loopI (fun i:List (List UInt8)×List (List UInt8)=>i.2.length) (fun i=>p.mutexes=i.1++i.2) (fun i=>⟨mkT [(1,.ptr gz 0),(3,vI ((nls i.1:Nat):Int)),(4,vI ((i.1.length:Nat):Int))],mkH [(gz,bK 26 3 [vL a ns cap,vL b nm cap2,vL d nt cap3])],(gz+1),[]⟩)
  ([],p.mutexes) rfl (by kernel_rfl)
  (fun h=>gU _ [(1,.ptr gz 0),(3,vI ((nls ([]:List (List UInt8)):Nat):Int)),(4,vI ((([]:List (List UInt8)).length:Nat):Int))] [(gz,bK 26 3 [vL a ns cap,vL b nm cap2,vL d nt cap3])] (gz+1) (fun b hb=>hγ0 b (by have h:gz=Tryz.prog.globals.size:=rfl;omega)) h) ?_
 rintro ⟨lM,rM⟩ hIM ihM
 have hIM:p.mutexes=lM++rM:=hIM
 have hn2M:nm=lM.length+rM.length:=by rw [hnm,hIM,List.length_append]
 have hsM:nls p.mutexes=nls lM+nls rM:=by rw [hIM,nls_app]
 refine rk ?_
 cases rM with
 | cons sM mM=>
   have hinM:lM.length<nm:=by rw [hn2M,List.length_cons];omega
   have hksM:=hyt
   rw [hIM] at hksM
   obtain ⟨cM,hcM,hcellM⟩:=hksM.at_ (fun _ _ h=>h.len)
   have hs2M:nls (lM++[sM])=nls lM+sM.length:=by rw [nls_app];simp [nls,vls,tls]
   have hs3M:nls (sM::mM)=sM.length+nls mM:=by simp [nls,vls,tls]
   refine kx (lM.length:Int) (nm:Int) (by omega) ?_
   refine rk ?_
   obtain rfl:cM=[nT sM]:=hcM
   refine gI 23 9 cap2 lM.length hys hinM ?_
   refine rk ?_
   refine gL 9 (nT sM) lM.length 0 hys (hcellM 0 _ rfl) ?_
   refine rk ?_
   refine gS 3 (x:=nI (wrapF .i64 (((nls lM:Nat):Int)+((sM.length:Nat):Int)))) (nI (((nls (lM++[sM]):Nat):Int))) (by rw [wr64 (n:=((nls lM:Nat):Int)+((sM.length:Nat):Int)) (by omega) (by omega)];congr 1;omega) ?_
   refine gJ 4 lM sM (by omega) ?_
   exact gU _ [(1,.ptr gz 0),(3,vI ((nls (lM++[sM]):Nat):Int)),(4,vI (((lM++[sM]).length:Nat):Int))] [(gz,bK 26 3 [vL a ns cap,vL b nm cap2,vL d nt cap3])] (gz+1) (fun b hb=>hγ0 b (by have h:gz=Tryz.prog.globals.size:=rfl;omega)) (ihM (lM++[sM],mM) (by show p.mutexes=(lM++[_])++mM;rw [hIM];simp) lS1)
 | nil=>
   have hklM:lM=p.mutexes:=by rw [hIM];simp
   have hn3M:nm=lM.length:=by rw [hn2M];simp
   refine ky (lM.length:Int) (nm:Int) (by omega) ?_
   refine rk ?_
   refine gS 3 (x:=nI ((nls lM:Nat):Int)) (nI ((nls p.mutexes+vls ([]:List Vr):Nat):Int)) (by rw [hklM];simp [vls]) ?_
   refine rk ?_
   refine good_toLp ?_
   refine good_loopI (fun i:List Vr×List Vr=>i.2.length) (fun i=>p.shared=i.1++i.2) (fun i=>⟨mkT [(1,.ptr gz 0),(3,vI ((nls p.mutexes+vls i.1:Nat):Int)),(5,vI ((i.1.length:Nat):Int))],mkH [(gz,bK 26 3 [vL a ns cap,vL b nm cap2,vL d nt cap3])],(gz+1),[]⟩)
    ([],p.shared) rfl (by kernel_rfl)
    (fun h=>gU _ [(1,.ptr gz 0),(3,vI ((nls p.mutexes+vls ([]:List Vr):Nat):Int)),(5,vI ((([]:List Vr).length:Nat):Int))] [(gz,bK 26 3 [vL a ns cap,vL b nm cap2,vL d nt cap3])] (gz+1) (fun b hb=>hγ0 b (by have h:gz=Tryz.prog.globals.size:=rfl;omega)) h) ?_
   rintro ⟨lS,rS⟩ hIS ihS
   have hIS:p.shared=lS++rS:=hIS
   have hn2S:ns=lS.length+rS.length:=by rw [hns,hIS,List.length_append]
   have hsS:vls p.shared=vls lS+vls rS:=by rw [hIS,vls_app]
   refine rk ?_
   cases rS with
   | cons sS mS=>
     have hinS:lS.length<ns:=by rw [hn2S,List.length_cons];omega
     have hksS:=hxt
     rw [hIS] at hksS
     obtain ⟨cS,hcS,hcellS⟩:=hksS.at_ (fun _ _ h=>h.len)
     have hs2S:vls (lS++[sS])=vls lS+sS.name.length:=by rw [vls_app];simp [nls,vls,tls]
     have hs3S:vls (sS::mS)=sS.name.length+vls mS:=by simp [nls,vls,tls]
     refine kx (lS.length:Int) (ns:Int) (by omega) ?_
     refine rk ?_
     obtain rfl:cS=[nT sS.name,.int .u8 sS.ty,.int .u64 sS.bits]:=hcS
     refine gI 22 67 cap lS.length hxs hinS ?_
     refine rk ?_
     refine gL 9 (nT sS.name) lS.length 0 hxs (hcellS 0 _ rfl) ?_
     refine rk ?_
     refine gS 3 (x:=nI (wrapF .i64 (((nls p.mutexes+vls lS:Nat):Int)+((sS.name.length:Nat):Int)))) (nI (((nls p.mutexes+vls (lS++[sS]):Nat):Int))) (by rw [wr64 (n:=((nls p.mutexes+vls lS:Nat):Int)+((sS.name.length:Nat):Int)) (by omega) (by omega)];congr 1;omega) ?_
     refine gJ 5 lS sS (by omega) ?_
     exact gU _ [(1,.ptr gz 0),(3,vI ((nls p.mutexes+vls (lS++[sS]):Nat):Int)),(5,vI (((lS++[sS]).length:Nat):Int))] [(gz,bK 26 3 [vL a ns cap,vL b nm cap2,vL d nt cap3])] (gz+1) (fun b hb=>hγ0 b (by have h:gz=Tryz.prog.globals.size:=rfl;omega)) (ihS (lS++[sS],mS) (by show p.shared=(lS++[_])++mS;rw [hIS];simp) lS1)
   | nil=>
     have hklS:lS=p.shared:=by rw [hIS];simp
     have hn3S:ns=lS.length:=by rw [hn2S];simp
     refine ky (lS.length:Int) (ns:Int) (by omega) ?_
     refine rs [45] 60 0 ?_
     rcases Bool.eq_false_or_eq_true (intLt 40 (nt:Int)) with h1 | h1
     ·
      refine gS 43 (x := .bool (intLt 40 (nt:Int))) (.bool true) (by rw [h1]) ?_
      refine gS 44 (x := .bool (intLt 40 (nt:Int))) (.bool true) (by rw [h1]) ?_
      refine rs [] 60 4 ?_
      refine gR (.bool true) (fun W hk=>⟨?_,hk.below⟩)
      rw [lrg_t.2 (.inl (by have:=lt_of_t h1;omega))]
     refine gS 43 (x := .bool (intLt 40 (nt:Int))) (.bool false) (by rw [h1]) ?_
     refine gS 44 (x := .bool (intLt 40 (nt:Int))) (.bool false) (by rw [h1]) ?_
     refine rs [51] 60 0 ?_
     rcases Bool.eq_false_or_eq_true (intLt 40 (ns:Int)) with h2 | h2
     ·
      refine gS 48 (x := .bool (intLt 40 (ns:Int))) (.bool true) (by rw [h2]) ?_
      refine gS 49 (x := .bool (intLt 40 (ns:Int))) (.bool true) (by rw [h2]) ?_
      refine gS 50 (x := .bool (intLt 40 (ns:Int))) (.bool true) (by rw [h2]) ?_
      refine rs [] 60 4 ?_
      refine gR (.bool true) (fun W hk=>⟨?_,hk.below⟩)
      rw [lrg_t.2 (.inr (.inl (by have:=lt_of_t h2;omega)))]
     refine gS 48 (x := .bool (intLt 40 (ns:Int))) (.bool false) (by rw [h2]) ?_
     refine gS 49 (x := .bool (intLt 40 (ns:Int))) (.bool false) (by rw [h2]) ?_
     refine gS 50 (x := .bool (intLt 40 (ns:Int))) (.bool false) (by rw [h2]) ?_
     refine rk ?_
     refine good_cond (b:=intLt 40 (nm:Int)) (by kernel_rfl) (fun h3=>?_) (fun h3=>?_)
     ·
      refine rs [] 60 4 ?_
      refine gR (.bool true) (fun W hk=>⟨?_,hk.below⟩)
      rw [lrg_t.2 (.inr (.inr (.inl (by have:=lt_of_t h3;omega))))]
     refine rk ?_
     refine gS 3 (x:=nI ((nls p.mutexes+vls lS:Nat):Int)) (nI ((nls p.mutexes+vls p.shared+tls ([]:List Th):Nat):Int)) (by rw [hklS];simp [tls]) ?_
     refine good_toLp ?_
     refine good_loopI (fun i:List Th×List Th=>i.2.length) (fun i=>p.threads=i.1++i.2∧∀ t∈i.1,t.locals.length≤40) (fun i=>⟨mkT [(1,.ptr gz 0),(3,vI ((nls p.mutexes+vls p.shared+tls i.1:Nat):Int)),(6,vI ((i.1.length:Nat):Int))],mkH [(gz,bK 26 3 [vL a ns cap,vL b nm cap2,vL d nt cap3])],(gz+1),[]⟩)
      ([],p.threads) ⟨rfl,fun t h=>by cases h⟩ (by kernel_rfl)
      (fun h=>gU _ [(1,.ptr gz 0),(3,vI ((nls p.mutexes+vls p.shared+tls ([]:List Th):Nat):Int)),(6,vI ((([]:List Th).length:Nat):Int))] [(gz,bK 26 3 [vL a ns cap,vL b nm cap2,vL d nt cap3])] (gz+1) (fun b hb=>hγ0 b (by have h:gz=Tryz.prog.globals.size:=rfl;omega)) h) ?_
     rintro ⟨lT,rT⟩ hIT ihT
     have hall:∀ t∈lT,t.locals.length≤40:=hIT.2
     have hIT:p.threads=lT++rT:=hIT.1
     have hn2T:nt=lT.length+rT.length:=by rw [hnt,hIT,List.length_append]
     have hsT:tls p.threads=tls lT+tls rT:=by rw [hIT,tls_app]
     refine rk ?_
     cases rT with
     | cons sT mT=>
       have hinT:lT.length<nt:=by rw [hn2T,List.length_cons];omega
       have hksT:=hzt
       rw [hIT] at hksT
       obtain ⟨cT,hcT,hcellT⟩:=hksT.at_ (fun _ _ h=>h.len)
       have hs2T:tls (lT++[sT])=tls lT+(sT.name.length+vls sT.locals):=by rw [tls_app];simp [nls,vls,tls]
       have hs3T:tls (sT::mT)=(sT.name.length+vls sT.locals)+tls mT:=by simp [nls,vls,tls]
       refine kx (lT.length:Int) (nt:Int) (by omega) ?_
       refine rk ?_
       obtain ⟨sa,scap,sxs,sb,scap2,sys,rfl,shs,sht,shb,shbt⟩:=hcT
       refine gI 24 58 cap3 lT.length hzs hinT ?_
       refine rk ?_
       refine gD 58 3 [nT sT.name,.slice sa sT.locals.length scap,.slice sb sT.body.length scap2] lT.length 0 hzs rfl hcellT ?_
       refine rk ?_
       refine good_cond (b:=intLt 40 (sT.locals.length:Int)) (by kernel_rfl) (fun h4=>?_) (fun h4=>?_)
       ·
        refine rs [] 60 4 ?_
        refine gR (.bool true) (fun W hk=>⟨?_,hk.below⟩)
        rw [lrg_t.2 (.inr (.inr (.inr (.inl ⟨sT,by rw [hIT];simp,by have:=lt_of_t h4;omega⟩))))]
       have h40:sT.locals.length≤40:=by have:=lt_of_f h4;omega
       refine rk ?_
       refine gS 3 (x:=nI (wrapF .i64 (((nls p.mutexes+vls p.shared+tls lT:Nat):Int)+((sT.name.length:Nat):Int)))) (nI (((nls p.mutexes+vls p.shared+tls lT+sT.name.length+vls ([]:List Vr):Nat):Int))) (by rw [wr64 (n:=((nls p.mutexes+vls p.shared+tls lT:Nat):Int)+((sT.name.length:Nat):Int)) (by omega) (by omega)];simp [vls]) ?_
       refine good_toLp ?_
       refine good_loopI (fun i:List Vr×List Vr=>i.2.length) (fun i=>sT.locals=i.1++i.2) (fun i=>⟨mkT [(1,.ptr gz 0),(3,vI ((nls p.mutexes+vls p.shared+tls lT+sT.name.length+vls i.1:Nat):Int)),(6,vI ((lT.length:Nat):Int)),(7,.ptr (gz+1) 0),(8,vI ((i.1.length:Nat):Int))],mkH [(gz,bK 26 3 [vL a ns cap,vL b nm cap2,vL d nt cap3]),(gz+1,bK 58 3 [vT sT.name,vL sa sT.locals.length scap,vL sb sT.body.length scap2])],(gz+2),[]⟩)
        ([],sT.locals) rfl (by kernel_rfl)
        (fun h=>gU _ [(1,.ptr gz 0),(3,vI ((nls p.mutexes+vls p.shared+tls lT+sT.name.length+vls ([]:List Vr):Nat):Int)),(6,vI ((lT.length:Nat):Int)),(7,.ptr (gz+1) 0),(8,vI ((([]:List Vr).length:Nat):Int))] [(gz,bK 26 3 [vL a ns cap,vL b nm cap2,vL d nt cap3]),(gz+1,bK 58 3 [vT sT.name,vL sa sT.locals.length scap,vL sb sT.body.length scap2])] (gz+2) (fun b hb=>hγ0 b (by have h:gz=Tryz.prog.globals.size:=rfl;omega)) h) ?_
       rintro ⟨lL,rL⟩ hIL ihL
       have hIL:sT.locals=lL++rL:=hIL
       have hn2L:sT.locals.length=lL.length+rL.length:=by rw [hIL,List.length_append]
       have hsL:vls sT.locals=vls lL+vls rL:=by rw [hIL,vls_app]
       refine rk ?_
       cases rL with
       | cons sL mL=>
         have hinL:lL.length<sT.locals.length:=by rw [hn2L,List.length_cons];omega
         have hksL:=sht
         rw [hIL] at hksL
         obtain ⟨cL,hcL,hcellL⟩:=hksL.at_ (fun _ _ h=>h.len)
         have hs2L:vls (lL++[sL])=vls lL+sL.name.length:=by rw [vls_app];simp [nls,vls,tls]
         have hs3L:vls (sL::mL)=sL.name.length+vls mL:=by simp [nls,vls,tls]
         refine kx (lL.length:Int) (sT.locals.length:Int) (by omega) ?_
         refine rk ?_
         obtain rfl:cL=[nT sL.name,.int .u8 sL.ty,.int .u64 sL.bits]:=hcL
         refine gI 22 67 scap lL.length shs hinL ?_
         refine rk ?_
         refine gL 9 (nT sL.name) lL.length 0 shs (hcellL 0 _ rfl) ?_
         refine rk ?_
         refine gS 3 (x:=nI (wrapF .i64 (((nls p.mutexes+vls p.shared+tls lT+sT.name.length+vls lL:Nat):Int)+((sL.name.length:Nat):Int)))) (nI (((nls p.mutexes+vls p.shared+tls lT+sT.name.length+vls (lL++[sL]):Nat):Int))) (by rw [wr64 (n:=((nls p.mutexes+vls p.shared+tls lT+sT.name.length+vls lL:Nat):Int)+((sL.name.length:Nat):Int)) (by omega) (by omega)];congr 1;omega) ?_
         refine gJ 8 lL sL (by omega) ?_
         exact gU _ [(1,.ptr gz 0),(3,vI ((nls p.mutexes+vls p.shared+tls lT+sT.name.length+vls (lL++[sL]):Nat):Int)),(6,vI ((lT.length:Nat):Int)),(7,.ptr (gz+1) 0),(8,vI (((lL++[sL]).length:Nat):Int))] [(gz,bK 26 3 [vL a ns cap,vL b nm cap2,vL d nt cap3]),(gz+1,bK 58 3 [vT sT.name,vL sa sT.locals.length scap,vL sb sT.body.length scap2])] (gz+2) (fun b hb=>hγ0 b (by have h:gz=Tryz.prog.globals.size:=rfl;omega)) (ihL (lL++[sL],mL) (by show sT.locals=(lL++[_])++mL;rw [hIL];simp) lS1)
       | nil=>
         have hklL:lL=sT.locals:=by rw [hIL];simp
         have hn3L:sT.locals.length=lL.length:=by rw [hn2L];simp
         refine ky (lL.length:Int) (sT.locals.length:Int) (by omega) ?_
         refine rk ?_
         refine gS 3 (x:=nI ((nls p.mutexes+vls p.shared+tls lT+sT.name.length+vls lL:Nat):Int)) (nI ((nls p.mutexes+vls p.shared+tls (lT++[sT]):Nat):Int)) (by rw [hklL,hs2T];congr 1;omega) ?_
         refine gJ 6 lT sT (by omega) ?_
         exact gU _ [(1,.ptr gz 0),(3,vI ((nls p.mutexes+vls p.shared+tls (lT++[sT]):Nat):Int)),(6,vI (((lT++[sT]).length:Nat):Int))] [(gz,bK 26 3 [vL a ns cap,vL b nm cap2,vL d nt cap3])] (gz+1) (fun b hb=>hγ0 b (by have h:gz=Tryz.prog.globals.size:=rfl;omega)) (ihT (lT++[sT],mT) ⟨(by show p.threads=(lT++[_])++mT;rw [hIT];simp),fun t ht=>(List.mem_append.1 ht).elim (hall t) (fun h=>by rw [List.mem_singleton] at h;rw [h];exact h40)⟩ lS1)
     | nil=>
       have hklT:lT=p.threads:=by rw [hIT];simp
       have hn3T:nt=lT.length:=by rw [hn2T];simp
       refine ky (lT.length:Int) (nt:Int) (by omega) ?_
       refine rs [96] 60 0 ?_
       rcases Bool.eq_false_or_eq_true (intLt 4000 ((nls p.mutexes+vls p.shared+tls lT:Nat):Int)) with h5 | h5
       ·
        refine gS 94 (x := .bool (intLt 4000 ((nls p.mutexes+vls p.shared+tls lT:Nat):Int))) (.bool true) (by rw [h5]) ?_
        refine gS 95 (x := .bool (intLt 4000 ((nls p.mutexes+vls p.shared+tls lT:Nat):Int))) (.bool true) (by rw [h5]) ?_
        refine rs [] 60 4 ?_
        refine gR (.bool true) (fun W hk=>⟨?_,hk.below⟩)
        rw [lrg_t.2 (.inr (.inr (.inr (.inr (.inl (by have:=lt_of_t h5;rw [hklT] at this;omega))))))]
       refine gS 94 (x := .bool (intLt 4000 ((nls p.mutexes+vls p.shared+tls lT:Nat):Int))) (.bool false) (by rw [h5]) ?_
       refine gS 95 (x := .bool (intLt 4000 ((nls p.mutexes+vls p.shared+tls lT:Nat):Int))) (.bool false) (by rw [h5]) ?_
       refine rk ?_
       refine gX [.agg #[.slice a ns cap,.slice b nm cap2,.slice d nt cap3]] (nI ((pwt p:Nat):Int)) (fun W hk=>weightProgram_any p _ W (by omega) (hp0.keep hk (kU hk))) ?_
       refine rk ?_
       refine gR (.bool (intLt 6000 ((pwt p:Nat):Int))) (fun W hk=>⟨?_,hk.below⟩)
       have g1:=lt_of_f h1
       have g2:=lt_of_f h2
       have g3:=lt_of_f h3
       have g5:=lt_of_f h5
       rw [hklT] at hall g5
       rcases Bool.eq_false_or_eq_true (lrg p) with hL | hL
       · rw [hL]
         have hL:=lrg_t.1 hL
         rw [lt_t]
         unfold Lrg at hL
         rcases hL with h | h | h | ⟨t,ht,h⟩ | h | h
         · omega
         · omega
         · omega
         · have:=hall t ht;omega
         · omega
         · omega
       · rw [hL]
         have hL:=lrg_f.1 hL
         rw [lt_f]
         intro h
         exact hL (.inr (.inr (.inr (.inr (.inr (by omega))))))
end
section
theorem run_eql_value (ox oy:Operand) (a b c d:Int) (w:World):
  (do eqGuard .eql 31 ox oy (.agg #[.int .u8 a,.int .u64 b]) (.agg #[.int .u8 c,.int .u64 d]);binOp .eql 31 (.agg #[.int .u8 a,.int .u64 b]) (.agg #[.int .u8 c,.int .u64 d]):Sem Value).run Tryz.prog w = .ok (.bool (vEq a b c d)) w:=by
 have h1:(eqGuard .eql 31 ox oy (.agg #[.int .u8 a,.int .u64 b]) (.agg #[.int .u8 c,.int .u64 d])).run Tryz.prog w = .ok () w:=by
  have:=valueGuard
  unfold eqGuard
  go_simp
 have h2:(binOp .eql 31 (.agg #[.int .u8 a,.int .u64 b]) (.agg #[.int .u8 c,.int .u64 d])).run Tryz.prog w = .ok (.bool (vEq a b c d)) w:=by
  rw [run_eql_struct,run_eqi_value]
  rfl
 exact Sy.eqG2 h1 h2
end
section
def Soft (w:World) (k:Nat):Prop:=∃ c e,w.heap[k]?=some (.cells c e (0,0))
def NewS (w w':World) (k:Nat):Prop:=NewIn w w' k∧Soft w' k
theorem Soft.keep {F:Nat→Prop} {w w':World} {k:Nat} (h:Soft w k) (hk:Sy.Keep F w w') (hF:F k):Soft w' k:=by
 obtain ⟨c,e,h⟩:=h
 exact ⟨c,e,by rw [hk.block k hF];exact h⟩
theorem NewS.up {F:Nat→Prop} {wa w2 w W:World} {k:Nat} (h:NewS wa w2 k) (hk:Sy.Keep F w2 W) (hF:F k) (h1:w.heap.size≤wa.heap.size) (h2:w2.heap.size≤W.heap.size):NewS w W k:=
 ⟨⟨Nat.le_trans h1 h.1.1,Nat.lt_of_lt_of_le h.1.2 h2⟩,h.2.keep hk hF⟩
theorem SlAt_ownS {F:Nat→Prop} {w:World} {base e sz n:Nat} {x:Value} {xs:List Value} (h:w.ownsRow base e sz x n xs) (hF:∀ k,base≤k→k<w.heap.size→Soft w k→F k):∃ a cap,x = .slice a n cap∧n≤cap∧Sy.SlAt F w a n sz xs:=by
 obtain ⟨hl,⟨rfl,rfl⟩ | ⟨g,cap,cur,rfl,hb,hh,hnc,hcm,hcs,ht⟩⟩:=h
 · exact ⟨none,0,rfl,Nat.le_refl _,⟨hl,.inl rfl⟩⟩
 · refine ⟨some ⟨g,0,none⟩,cap,rfl,hnc,⟨hl,.inr ⟨rfl,hF g hb (Array.getElem?_eq_some_iff.1 hh).1 ⟨_,_,hh⟩,fun j v hv=>?_⟩⟩⟩
   rw [← ht] at hv
   have hj:=(List.getElem?_eq_some_iff.1 hv).1
   rw [List.length_take] at hj
   rw [List.getElem?_take,if_pos (by omega)] at hv
   simp only [Sy.gB,Sy.oB,Nat.zero_add]
   simp [World.cell?,hh]
   simpa using hv
def CInvS {α:Type} (At:(Nat→Prop)→World→α→List Value→Prop) (e sz:Nat) (w:World) (L:List α) (b:Nat) (i:CI α) (B:Nat→Prop) (w1:World):Prop:=
 L=i.l1++i.l2∧Sy.Keep (·<w.heap.size) w w1∧(∀ k,k<w.heap.size→B k)∧(∀ k,B k→k<w1.heap.size)∧LsAt (At (fun k=>B k∧w.heap.size≤k∧Soft w1 k) w1) i.l1 i.xs∧Sy.RowAt e sz b i.l1.length i.xs i.X i.ob
end
section
open Go.Sy in
theorem app_noneS {P:Program} {z:Value} {t e:TypeId} {sz bytes:Nat} (hz1:(P.info? e).bind (fun i=>i.zero)=some z) (hu:Sy.elemOf P t=some e) (hi:infoOf P e=some (sz,bytes)) (hsz:Nat.blt 0 sz=true) {F:Nat→Prop} {w1:World} {k:Nat} {a:Option Addr} {n c:Nat} {xs:List Value} (h:SlAt F w1 a n sz xs) (hb:n*bytes≤140737488355328) (h63:n≤maxLen):
  ∀ w,Keep F w1 w→∀ ty,∃ r w',(Builtin.append_ [t,t].toArray ty #[.slice (some ⟨k,0,none⟩) 0 0,.slice a n c]).run P w = .ok r w'∧(∃ a' cap' zs,r = .slice a' n cap'∧SlAt (NewS w w') w' a' n sz xs∧SlAt (NewS w w') w' a' cap' sz (xs++zs)∧(∀ u∈zs,u∈z.cells.toList)∧cap'≤maxLen)∧Below w.heap.size w w':=by
 intro w hk ty
 have hsz:=blt_lt hsz
 unfold Sy.elemOf at hu
 split at hu <;> first | (cases hu;done) | skip
 rename_i e' hu'
 injection hu with hu
 subst hu
 unfold infoOf at hi
 split at hi <;> first | (cases hi;done) | skip
 rename_i i hi'
 split at hi <;> first | (cases hi;done) | skip
 rename_i z' hz
 obtain rfl:z'=z:=by rw [hi'] at hz1;simp only [Option.bind_some] at hz1;rw [hz] at hz1;injection hz1
 split at hi <;> first | (cases hi;done) | skip
 rename_i hzs
 injection hi with hi
 injection hi with e1 e2
 subst e1 e2
 have hw:=h.keep hk
 cases n with
 | zero=>
   refine ⟨.slice (some ⟨k,0,none⟩) 0 0,w,?_,⟨_,_,[],rfl,⟨h.len,.inl rfl⟩,⟨by have:=h.len;simpa using this,.inl rfl⟩,(fun u h=>by cases h),by simp [maxLen]⟩,Below.refl _ _⟩
   cases a <;> simp [Builtin.append_,run_underlying hu',sizeOf,typeInfo,hi',Builtin.lenOf,Builtin.firstCells,storeCells,loadCells,loadCellsFrom]
 | succ m=>
   rcases hw.place with h0 | ⟨ha,hF,hcell⟩
   · omega
   rw [ha]
   have hr:=run_append_grow (P:=P) w t ty _ i _ hu' hi' hz ⟨k,0,none⟩ 0 0 [] (by simp) (by simp) ⟨gB a,oB a,none⟩ (m+1) c xs hw.len (fun j v hv=>by have:=hcell j v hv;simpa [Addr.add_mid] using this) (by omega) (by simp only [maxLen] at h63;omega) (growslice_fits (by omega) (by rw [Nat.zero_add];exact hb))
   rw [Nat.zero_add] at hr
   have hge:=grownCap_ge w (m+1) 0 e'
   have hcm:=grownCap_le_maxLen w (m+1) 0 e' h63
   generalize hcap:grownCap w (m+1) 0 e'=cp at hr hge hcm
   obtain ⟨X,hX⟩:∃ X:Array Value,X=#[]++xs.toArray++Builtin.zeroCells z'.cells (cp - (m+1)):=⟨_,rfl⟩
   rw [← hX] at hr
   have hh:(w.drew.alloc (.cells X e')).heap[w.heap.size]?=some (.cells X e'):=heap_alloc_new w.drew _
   have hXl:X.toList=xs++(Builtin.zeroCells z'.cells (cp - (m+1))).toList:=by rw [hX];simp
   have hnew:NewS w (w.drew.alloc (.cells X e')) w.heap.size:=⟨⟨Nat.le_refl _,by simp⟩,⟨_,_,hh⟩⟩
   have hcell2:∀ j v,X.toList[j]?=some v→(w.drew.alloc (.cells X e')).cell? ⟨w.heap.size,0+j,none⟩=some v:=fun j v hv=>by
    simp only [World.cell?]
    rw [hh]
    simp only [Nat.zero_add]
    simpa using hv
   refine ⟨_,_,hr,⟨_,_,(Builtin.zeroCells z'.cells (cp - (m+1))).toList,rfl,⟨hw.len,.inr ⟨rfl,hnew,fun j v hv=>?_⟩⟩,⟨?_,.inr ⟨rfl,hnew,fun j v hv=>?_⟩⟩,fun u hu=>?_,hcm⟩,((Below.refl _ _).drew).alloc (by simp) _⟩
   · have hj:=(List.getElem?_eq_some_iff.1 hv).1
     exact hcell2 j v (by rw [hXl,List.getElem?_append_left hj];exact hv)
   · rw [List.length_append,hw.len,Array.length_toList,size_zeroCells,Nat.eq_of_beq_eq_true hzs,← Nat.add_mul]
     congr 1
     omega
   · exact hcell2 j v (by rw [hXl];exact hv)
   · simp only [Builtin.zeroCells] at hu
     rw [Array.toList_map,List.mem_map] at hu
     obtain ⟨j,_,rfl⟩:=hu
     have hpos:0<z'.cells.size:=by rw [Nat.eq_of_beq_eq_true hzs];exact hsz
     have hlt:=Nat.mod_lt j hpos
     rw [getElem!_pos z'.cells _ hlt]
     simp
end
section
theorem store_soft {P:Program} {ty:TypeId} (hz:Sy.szB P ty=some 1) {w:World} {b o:Nat} {c:Array Value} {e:TypeId} (hb:w.heap[b]?=some (.cells c e (0,0))) (ho:o<c.size) {v:Value} (hv:v.cells=#[v]) (h1:v.oneCell'=true):
  (Instr.storeAt ty (.pointer (some ⟨b,o,none⟩)) v).run P w = .ok () (w.setRow b (c.toList.take o++[v]++c.toList.drop (o+1)).toArray):=by
 have hst:=run_storeCells_at (P:=P) b o e [v] 0 c w hb (by simp only [List.length_cons,List.length_nil];omega) (by simpa using h1)
 simp only [Nat.add_zero,List.length_cons,List.length_nil,Nat.zero_add] at hst
 simp [Instr.storeAt,Instr.sureAddr,storeVar,Sy.szB_ok hz,hv,hst]
end
section
theorem slAt_part {F:Nat→Prop} {w:World} {a:Option Addr} {n sz:Nat} {xs c:List Value} (h:Sy.SlAt F w a n sz xs) (hn:0<n) {off k:Nat} (hl:c.length=k) (hc:∀ j v,c[j]?=some v→xs[off+j]?=some v):
  Sy.SlAt F w (some ⟨Sy.gB a,Sy.oB a+off,none⟩) 1 k c:=by
 refine ⟨by omega,.inr ⟨rfl,?_,fun j v hv=>?_⟩⟩
 · rcases h.place with h0 | ⟨_,h1,_⟩
   · omega
   · exact h1
 · rcases h.place with h0 | ⟨_,h1,h2⟩
   · omega
   · simp only [Sy.gB,Sy.oB]
     rw [Nat.add_assoc]
     exact h2 _ _ (hc j v hv)
theorem ld_pt {P:Program} {F:Nat→Prop} {w:World} {b o sz:Nat} {xs:List Value} {ty:TypeId} (h:Sy.SlAt F w (some ⟨b,o,none⟩) 1 sz xs) (hb:Sy.aggB P ty=some false) (j:Nat) {v:Value} (hv:xs[j]?=some v) {W:World} (hk:Sy.Keep F w W):
  (Instr.loadAt ty (.pointer (some ⟨b,o+j,none⟩))).run P W = .ok v W:=by
 have:=Sy.load_sl h hb 0 j (by simpa using hv) hk
 simpa [Sy.gB,Sy.oB] using this
end
section
theorem st_cell {ec:List Value} (h:ec.length=5) (x y u v:Value):(x::y::(ec++[u,v]))[7]?=some u∧(x::y::(ec++[u,v]))[8]?=some v:=by
 constructor
 · rw [show (7:Nat)=5+1+1 from rfl,List.getElem?_cons_succ,List.getElem?_cons_succ,List.getElem?_append_right (by omega),h]
   rfl
 · rw [show (8:Nat)=6+1+1 from rfl,List.getElem?_cons_succ,List.getElem?_cons_succ,List.getElem?_append_right (by omega),h]
   rfl
theorem st_mid {ec:List Value} (x y u v:Value):∀ j z,ec[j]?=some z→(x::y::(ec++[u,v]))[2+j]?=some z:=fun j z hz=>by
 have hj:=(List.getElem?_eq_some_iff.1 hz).1
 rw [show 2+j=j+1+1 by omega,List.getElem?_cons_succ,List.getElem?_cons_succ,List.getElem?_append_left hj]
 exact hz
end
end Go.Proofs.YtiacalnkmnckjaaGreatDoor
