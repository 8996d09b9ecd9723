/- Texts of this proof, one behind the other. Conditions: those in each theorem. -/
import Derived.Test.YtinjiigdijbjeaaGreatDoorSvQ8
import Derived.Test.YtinjiigdijbjeaaGreatDoorSvQ1
import Derived.Test.YtinjiigdijbjeaaGreatDoorSvQ4
import Derived.Test.YtinjiigdijbjeaaGreatDoorSvQ5
import Derived.Test.YtinjiigdijbjeaaGreatDoorSvQ6
import Derived.Test.YtinjiigdijbjeaaGreatDoorSvQ7
set_option linter.unusedVariables false
set_option linter.unusedSimpArgs false
section
noncomputable section
namespace Go.Sy
open Go Go.RowKit Go.As
section
variable {P:Program} {I:Aux} {B:Nat→Prop} {w0:World} {γ0:Gm} {nt:Nat} {Q:Exit→Act→World→Prop} {g:Cfg}
theorem good_appS' {t e:Nat} {z:Value} (esz bytes b n m:Nat) (xs:List Value) (X:AV) (ob:Option Blk) (A:Option Addr) (kk:Nat) (news:List Value) (E:List Nat)
  (h:hdApp P nt g=some ([t,t],X,.v (.slice A m kk))) (hu:P.underlying t=some (.slice e)) (hinf:(P.info? e).map (fun i=>(i.zero,i.size,i.bytes))=some (some z,esz,bytes)) (hzs:z.cells.size=esz) (hpos:0<esz) (hby0:0<bytes)
  (hrow:RowAt e esz b n xs X ob) (hob:g.s.h.get b=ob) (hsl:∀ w,Keep B w0 w→Sl w esz A m news) (hone:news.all (fun v=>v.oneCell')=true) (hby:(n+m)*bytes≤140737488355328)
  (hγb:γ0 b=none) (hbc:Nat.blt b g.s.c=true) (hGb:Nat.ble P.globals.size b=true) (hds:g.s.ds=[]) (hE:trAll (avNo b) (eraseL E g.s.T)=true) (hH:trAll (blkNo b) (g.s.h.put b none)=true)
  (hg:∀ X' ob',RowAt e esz b (n+m) (xs++news) X' ob'→Good P B w0 γ0 nt Q ⟨restK g,⟨putD (dstOf g) (eraseL E g.s.T) X',g.s.h.put b ob',g.s.c,[]⟩⟩):Good P B w0 γ0 nt Q g:=by
 have hbc:=blt_lt hbc
 have hGb:P.globals.size≤b:=Nat.le_of_ble_eq_true hGb
 unfold hdApp at h
 split at h
 · cases h
 rename_i o ho
 split at h <;> first | (cases h;done) | skip
 rename_i k hop
 split at h <;> first | (cases h;done) | skip
 rename_i s x hce hargs
 split at h <;> first | (cases h;done) | skip
 rename_i aS aX hs hx
 injection h with h
 injection h with e1 h
 injection h with e2 e3
 subst e2 e3
 have hargs':k.args=#[s,x]:=by apply Array.ext';simpa using hargs
 have hts:k.argTypes=#[t,t]:=by apply Array.ext';simpa using e1
 have hop':o.op = .call { callee := .builtin .append,args:=#[s,x],argTypes:=#[t,t] }:=by rw [hop,← hce,← hargs',← hts]
 refine good_opF ho (fun γ a w K QQ hle hf hr hb hdst hdlt hK=>?_)
 have hok:=hf.ok (P:=P) (B:=B) (G:=0) hr.glob o.op.operands.toList
 have hmem:o.op.operands.toList=[s,x]:=by rw [hop'];simp [Op.operands,Call.operands]
 have hs':=hok s (by simp [hmem]) _ hs
 have hx':=hok x (by simp [hmem]) _ hx
 obtain ⟨hown,hoB⟩:=row_own (base:=0) hrow hob hr hs' (fun k _=>Nat.zero_le _)
 obtain ⟨v',w',hrun,hown',hgr,hsn⟩:=run_app (P:=P) 0 t o.type e z esz bytes hu hinf hzs hpos hby0 (a.eval s) n xs hown A m kk news (hsl w hb) (fun u hu=>List.all_eq_true.1 hone u hu) hby (Nat.zero_le _)
 have hxe:a.eval x = .slice A m kk:=by generalize a.eval x=q at hx';cases hx';rfl
 have hopr:(execOp a.eval o).run P w = .ok (.value v') w':=by
  unfold execOp
  simp only [hop',resolve,invoke,builtin,Sem.run_bind,Sem.run_pure,Result.andThen_ok,List.map_toArray,List.map_cons,List.map_nil,hxe,hrun]
 rcases hown'.2 with ⟨rfl,h0⟩ | ⟨gg,cap,cur,rfl,_,hheap,hnc,hcm,hcs,htake⟩
 ·
  have hnews:xs++news=[]:=by
   have:=hown'.1
   rw [h0] at this
   exact List.eq_nil_of_length_eq_zero (by simpa using this)
  have hrow0:RowAt e esz b (n+m) (xs++news) (.v (.slice none 0 0)) none:=⟨by rw [hnews,h0];simp,.inl ⟨rfl,rfl,h0⟩⟩
  have hkeep:∀ b1 blk p,b1≠b→g.s.h.get b1=some blk→γ b1=some p→w'.heap[p.1]?=w.heap[p.1]?:=by
   intro b1 blk p hne h1 h2
   obtain ⟨q,hq,hbr⟩:=hr.live b1 _ h1
   obtain rfl:q=p:=by rw [hq] at h2;injection h2
   refine hgr.block _ hbr.lt (fun e=>?_)
   obtain ⟨_,hγ⟩:=hoB q.1 e.symm
   have hobs:∃ blk2,g.s.h.get b=some blk2:=by
    rcases hrow.2 with ⟨hX,_,_⟩ | ⟨_,hob2⟩
    · subst hX
      generalize hvs:a.eval s=vS at hs' e
      cases hs'
      simp [Value.ownBlock] at e
    · exact ⟨_,hob.trans hob2⟩
   obtain ⟨blk2,hblk2⟩:=hobs
   exact hne (hr.inj _ _ _ _ _ _ h1 hblk2 hq hγ rfl)
  refine wp_val hopr (hK γ _ w' (putD (dstOf g) (eraseL E g.s.T) (.v (.slice none 0 0))) (g.s.h.put b none) g.s.c hle ⟨?_,?_,?_⟩ ⟨fun b1 blk hb1=>?_,fun b1 b2 blk1 blk2 p1 p2 h1 h2 g1 g2 e=>?_,hr.fresh,hr.glob,fun k hk=>Nat.lt_of_lt_of_le (hr.base k hk) hgr.size⟩
   (hb.grown hgr hr.base (fun k hk=>(hoB k hk).1)) (by have:=hg _ _ hrow0;rw [hds];exact this))
  · have:=hf.size
    cases o.dst with
    | none=>exact this
    | some d=>simp [Act.put,this]
  · intro t' av ht
    have hold:∀ {t'':Nat} {av':AV},(eraseL E g.s.T).get t''=some av'→(∀ d,o.dst=some d→t''≠d)→∃ v,(a.put o.dst (.slice none 0 0)).tmps[t'']?=some v∧VR γ av' v:=by
     intro t'' av' h1 hne
     obtain ⟨v,h2,h3⟩:=hf.tmps t'' av' (eraseL_get h1)
     refine ⟨v,?_,h3⟩
     cases hd:o.dst with
     | none=>simpa [Act.put,hd] using h2
     | some d=>simp only [Act.put,hd];rw [Array.getElem?_setIfInBounds_ne (fun e=>hne d hd e.symm)];exact h2
    rw [hdst] at ht
    cases hd:o.dst with
    | none=>
      rw [hd] at ht hold
      exact hold ht (fun d e=>by cases e)
    | some d=>
      rw [hd] at ht hold
      simp only [putD] at ht
      rw [Tr.get_put] at ht
      split at ht
      · rename_i e
        subst e
        injection ht with ht
        subst ht
        refine ⟨_,?_,.v _⟩
        simp [Act.put,hf.size,hdlt _ hd]
      · rename_i hne
        exact hold ht (fun d' e=>by injection e with e;subst e;exact hne)
  · have:=hf.defs
    rw [hds] at this ⊢
    have h2:(a.put o.dst (.slice none 0 0)).defers=a.defers:=by cases o.dst <;> rfl
    rw [h2]
    revert this
    cases a.defers with
    | nil=>exact fun _=>trivial
    | cons d l=>exact fun h=>h.elim
  · rw [Tr.get_put] at hb1
    split at hb1
    · cases hb1
    · rename_i hne
      obtain ⟨p,hp,hbr⟩:=hr.live b1 blk hb1
      exact ⟨p,hp,hbr.kept (hkeep b1 blk p hne hb1 hp)⟩
  · rw [Tr.get_put] at h1 h2
    split at h1 <;> split at h2 <;> first | (cases h1;done) | (cases h2;done) | skip
    exact hr.inj _ _ _ _ _ _ h1 h2 g1 g2 e
 have hBg:¬ B gg:=by
  rcases hsn gg rfl with h5 | h5
  · exact (hoB gg h5).1
  · exact fun hB=>Nat.not_lt.2 h5 (hr.base gg hB)
 have hbd:∀ b1 blk p,b1≠b→g.s.h.get b1=some blk→γ b1=some p→w'.heap[p.1]?=w.heap[p.1]?∧p.1≠gg:=by
  intro b1 blk p hne h1 h2
  obtain ⟨q,hq,hbr⟩:=hr.live b1 _ h1
  obtain rfl:q=p:=by rw [hq] at h2;injection h2
  have hno:∀ j,(a.eval s).ownBlock=some j→q.1≠j:=by
   intro j hj e
   obtain ⟨_,hγ⟩:=hoB j hj
   have hobs:∃ blk2,g.s.h.get b=some blk2:=by
    rcases hrow.2 with ⟨hX,_,_⟩ | ⟨_,hob2⟩
    · subst hX
      generalize hvs:a.eval s=vS at hs' hj
      cases hs'
      simp [Value.ownBlock] at hj
    · exact ⟨_,hob.trans hob2⟩
   obtain ⟨blk2,hblk2⟩:=hobs
   exact hne (hr.inj _ _ _ _ _ _ h1 hblk2 hq hγ e)
  refine ⟨hgr.block _ hbr.lt (fun e=>hno _ e.symm rfl),fun e=>?_⟩
  rcases hsn gg rfl with h5 | h5
  · exact hno gg h5 e
  · have:=hbr.lt
    omega
 have hrow':RowAt e esz b (n+m) (xs++news) (.slg b 0 (n+m) esz) (some (.row e (xs++news))):=⟨hown'.1,.inr ⟨rfl,rfl⟩⟩
 have hupd:∀ {b1:Nat} {p:Nat×Nat},b1≠b→γ b1=some p→(γ.upd b (gg,cap*esz)) b1=some p:=fun hne h1=>Gm.upd_ne h1 hne
 refine wp_val hopr (hK (γ.upd b (gg,cap*esz)) _ w' (putD (dstOf g) (eraseL E g.s.T) (.slg b 0 (n+m) esz)) (g.s.h.put b (some (.row e (xs++news)))) g.s.c (fun b1 p hp=>?_) ⟨?_,?_,?_⟩ ⟨fun b1 blk hb1=>?_,fun b1 b2 blk1 blk2 p1 p2 h1 h2 g1 g2 e=>?_,fun b1 hb1=>?_,fun x hx=>?_,fun k hk=>Nat.lt_of_lt_of_le (hr.base k hk) hgr.size⟩
  (hb.grown hgr hr.base (fun k hk=>(hoB k hk).1)) (by have:=hg _ _ hrow';rw [hds];exact this))
 · refine hupd (fun e=>?_) (hle b1 p hp)
   subst e
   rw [hγb] at hp
   cases hp
 · have:=hf.size
   cases o.dst with
   | none=>exact this
   | some d=>simp [Act.put,this]
 · intro t' av ht
   have hold:∀ {t'':Nat} {av':AV},(eraseL E g.s.T).get t''=some av'→(∀ d,o.dst=some d→t''≠d)→∃ v,(a.put o.dst (.slice (some ⟨gg,0,none⟩) (n+m) cap)).tmps[t'']?=some v∧VR (γ.upd b (gg,cap*esz)) av' v:=by
    intro t'' av' h1 hne
    obtain ⟨v,h2,h3⟩:=hf.tmps t'' av' (eraseL_get h1)
    refine ⟨v,?_,h3.upd (trAll_get hE t'' av' h1)⟩
    cases hd:o.dst with
    | none=>simpa [Act.put,hd] using h2
    | some d=>simp only [Act.put,hd];rw [Array.getElem?_setIfInBounds_ne (fun e=>hne d hd e.symm)];exact h2
   rw [hdst] at ht
   cases hd:o.dst with
   | none=>
     rw [hd] at ht hold
     exact hold ht (fun d e=>by cases e)
   | some d=>
     rw [hd] at ht hold
     simp only [putD] at ht
     rw [Tr.get_put] at ht
     split at ht
     · rename_i e
       subst e
       injection ht with ht
       subst ht
       refine ⟨_,?_,.slg (Gm.upd_same _ _ _) hnc hcm (fun _=>⟨rfl,by simp⟩)⟩
       simp [Act.put,hf.size,hdlt _ hd]
     · rename_i hne
       exact hold ht (fun d' e=>by injection e with e;subst e;exact hne)
 · have:=hf.defs
   rw [hds] at this ⊢
   have h2:(a.put o.dst (.slice (some ⟨gg,0,none⟩) (n+m) cap)).defers=a.defers:=by cases o.dst <;> rfl
   rw [h2]
   revert this
   cases a.defers with
   | nil=>exact fun _=>trivial
   | cons d l=>exact fun h=>h.elim
 · rw [Tr.get_put] at hb1
   split at hb1
   · rename_i e
     subst e
     injection hb1 with hb1
     subst hb1
     refine ⟨_,Gm.upd_same _ _ _,hBg,cur,hheap,hcs,?_⟩
     rw [hown'.1]
     exact htake
   · rename_i hne
     obtain ⟨p,hp,hbr⟩:=hr.live b1 blk hb1
     refine ⟨p,hupd hne hp,(hbr.upd ?_).kept (hbd b1 blk p hne hb1 hp).1⟩
     exact trAll_get hH b1 blk (by rw [Tr.get_put,if_neg hne];exact hb1)
 · rw [Tr.get_put] at h1 h2
   split at h1 <;> split at h2
   · rename_i e1 e2;exact e1.trans e2.symm
   · rename_i e1 e2
     subst e1
     rw [Gm.upd_same] at g1
     injection g1 with g1
     subst g1
     obtain ⟨q,hq,_⟩:=hr.live b2 _ h2
     have:q=p2:=by have:=hupd e2 hq;rw [this] at g2;injection g2
     subst this
     exact absurd e.symm (hbd b2 blk2 q e2 h2 hq).2
   · rename_i e1 e2
     subst e2
     rw [Gm.upd_same] at g2
     injection g2 with g2
     subst g2
     obtain ⟨q,hq,_⟩:=hr.live b1 _ h1
     have:q=p1:=by have:=hupd e1 hq;rw [this] at g1;injection g1
     subst this
     exact absurd e (hbd b1 blk1 q e1 h1 hq).2
   · rename_i e1 e2
     obtain ⟨q,hq,_⟩:=hr.live b1 _ h1
     obtain ⟨q',hq',_⟩:=hr.live b2 _ h2
     have k1:q=p1:=by have:=hupd e1 hq;rw [this] at g1;injection g1
     have k2:q'=p2:=by have:=hupd e2 hq';rw [this] at g2;injection g2
     subst k1 k2
     exact hr.inj _ _ _ _ _ _ h1 h2 hq hq' e
 · unfold Gm.upd
   have hb1:g.s.c≤b1:=hb1
   rw [if_neg (by omega)]
   exact hr.fresh b1 hb1
 · obtain ⟨N,hN⟩:=hr.glob x hx
   exact ⟨N,hupd (by omega) hN⟩
theorem slAt_Sl {F:Nat→Prop} {w w':World} {a:Option Addr} {n sz:Nat} {xs:List Value} (h:SlAt F w a n sz xs) (hF:∀ k,F k→k<w.heap.size) (hk:Keep F w w'):Sl w' sz a n xs:=by
 refine ⟨h.len,fun hn=>?_⟩
 rcases h.place with h0 | ⟨ha,hb,hc⟩
 · omega
 · refine ⟨⟨gB a,oB a,none⟩,ha,Nat.lt_of_lt_of_le (hF _ hb) hk.size,fun j u hu=>?_⟩
   rw [Addr.add_mid]
   exact rangeAt_keep hk hb hc j u hu
theorem good_appS {t e:Nat} (esz bytes b n m:Nat) (xs:List Value) (X:AV) (ob:Option Blk) (A:Option Addr) (kk:Nat) (news:List Value) (E:List Nat)
  (h:hdApp P nt g=some ([t,t],X,.v (.slice A m kk))) (hu:elemOf P t=some e) (hi:infoOf P e=some (esz,bytes)) (hpos:Nat.blt 0 esz=true) (hby0:Nat.blt 0 bytes=true)
  (hrow:RowAt e esz b n xs X ob) (hob:g.s.h.get b=ob) {F:Nat→Prop} (hsl:SlAt F w0 A m esz news) (hF:∀ k,F k→B k) (hF0:∀ k,F k→k<w0.heap.size) (hone:news.all (fun v=>v.oneCell')=true) (hby:(n+m)*bytes≤140737488355328)
  (hγb:γ0 b=none) (hbc:Nat.blt b g.s.c=true) (hGb:Nat.ble P.globals.size b=true) (hds:g.s.ds=[]) (hE:trAll (avNo b) (eraseL E g.s.T)=true) (hH:trAll (blkNo b) (g.s.h.put b none)=true)
  (hg:∀ X' ob',RowAt e esz b (n+m) (xs++news) X' ob'→Good P B w0 γ0 nt Q ⟨restK g,⟨putD (dstOf g) (eraseL E g.s.T) X',g.s.h.put b ob',g.s.c,[]⟩⟩):Good P B w0 γ0 nt Q g:=by
 unfold elemOf at hu
 split at hu <;> first | (cases hu;done) | skip
 rename_i e' hu'
 injection hu with hu
 subst hu
 unfold infoOf at hi
 split at hi <;> first | (cases hi;done) | skip
 rename_i i hi'
 split at hi <;> first | (cases hi;done) | skip
 rename_i z hz
 split at hi <;> first | (cases hi;done) | skip
 rename_i hzs
 injection hi with hi
 injection hi with e1 e2
 subst e1 e2
 exact good_appS' i.size i.bytes b n m xs X ob A kk news E h hu' (z:=z) (by rw [hi',Option.map_some,hz]) (Nat.eq_of_beq_eq_true hzs) (blt_lt hpos) (blt_lt hby0) hrow hob (fun w hk=>slAt_Sl hsl hF0 (hk.mono hF)) hone hby hγb hbc hGb hds hE hH hg
end
end Go.Sy
end
end
section
noncomputable section
namespace Go.Sy
open Go Go.RowKit
theorem allLtT_cons {n:Nat} {p:Nat×AV} {l:List (Nat×AV)} (h:avLt n p.2=true) (hl:allLtT n l=true):allLtT n (p::l)=true:=by simp only [allLtT];rw [h];exact hl
theorem allLtH_cons {n:Nat} {p:Nat×Option Blk} {l:List (Nat×Option Blk)} (h:Nat.blt p.1 n=true) (hb:(match p.2 with | none=>true | some b=>blkLt n b)=true) (hl:allLtH n l=true):allLtH n (p::l)=true:=by
 obtain ⟨k,ob⟩:=p
 cases ob with
 | none=>simp only [allLtH];rw [show Nat.blt k n=true from h];exact hl
 | some b=>simp only [allLtH];rw [show Nat.blt k n=true from h,show blkLt n b=true from hb];exact hl
theorem allLtH_row {n e esz b m:Nat} {xs:List Value} {X:AV} {ob:Option Blk} {l:List (Nat×Option Blk)} (h:Nat.blt b n=true) (hrow:RowAt e esz b m xs X ob) (hl:allLtH n l=true):allLtH n ((b,ob)::l)=true:=by
 rcases hrow.2 with ⟨_,rfl,_⟩ | ⟨_,rfl⟩
 · exact allLtH_cons h rfl hl
 · exact allLtH_cons h rfl hl
section
variable {P:Program} {B:Nat→Prop} {w0:World} {γ0:Gm} {nt:Nat} {g:Cfg}
theorem good_endRow {fn:Func} {R:Ending→World→Prop} {e esz b n base:Nat} {xs:List Value} {X:AV} {ob:Option Blk} (hrow:RowAt e esz b n xs X ob) (h:endOf P fn g=some X) (hob:g.s.h.get b=ob) (hbase:∀ k,k<base→B k)
  (hR:∀ w a cap,Keep B w0 w→SlAt (fun k=>base≤k∧k<w.heap.size) w a n esz xs→R (.returned (.slice a n cap)) w):Good P B w0 γ0 nt (bodyPostD P fn R) g:=by
 refine good_end h (fun γ w v _ hv hr hk=>?_)
 obtain ⟨hown,_⟩:=row_own (base:=base) hrow hob hr hv (fun k hk=>Nat.le_of_not_lt (fun h=>hk (hbase k h)))
 obtain ⟨a,cap,rfl,_,hsl⟩:=SlAt.of_own (F:=fun k=>base≤k∧k<w.heap.size) hown (fun k h1 h2=>⟨h1,h2⟩)
 exact hR w a cap hk hsl
end
end Go.Sy
end
end
section
noncomputable section
namespace Go.Sy
open Go Go.RowKit
def tailK (g:Cfg):List It:=match g.k with
 | .ops _ _::k=>k
 | _=>[]
section
variable {P:Program} {I:Aux} {B:Nat→Prop} {w0:World} {γ0:Gm} {nt:Nat} {Q:Exit→Act→World→Prop} {g:Cfg}
structure GoodP (P:Program) (B:Nat→Prop) (w0:World) (γ0:Gm) (nt:Nat) (Q:Exit→Act→World→Prop) (g:Cfg) (av:AV):Prop where
 out:∀ γ a w v,Gm.le γ0 γ→FR γ nt g.s.T g.s.ds a→VR γ av v→HR B P.globals.size γ g.s.h g.s.c w→Keep B w0 w→after P Q g.k (.panic [{ v:=v,recovered:=false }]) a w
theorem after_panic {ch:List PanicEntry} {w:World} (hq:∀ a:Act,a.defers=[]→Q (.panic ch) a w):∀ {k:List It} {a:Act},a.defers=[]→after P Q k (.panic ch) a w
 | [],a,h=>hq a h
 | .code _::k,a,h=>after_panic (k:=k) hq h
 | .ops _ _::k,a,h=>after_panic (k:=k) hq h
 | .blk _::k,a,h=>after_panic (k:=k) hq h
 | .lp _::k,a,h=>after_panic (k:=k) hq h
 | .sc::k,a,h=>after_panic (k:=k) hq h
 | .np::k,a,h=>⟨h,fun a' h'=>after_panic (k:=k) hq h'⟩
 | .pl _ _ _::k,a,h=>⟨h,fun a' h'=>after_panic (k:=k) hq h'⟩
def noPl:List It→Bool
 | []=>true
 | .np::_=>false
 | .pl _ _ _::_=>false
 | .code _::k=>noPl k
 | .ops _ _::k=>noPl k
 | .blk _::k=>noPl k
 | .lp _::k=>noPl k
 | .sc::k=>noPl k
theorem after_panicD {ch:List PanicEntry} {w:World} {a:Act} (hq:Q (.panic ch) a w):∀ {k:List It},noPl k=true→after P Q k (.panic ch) a w
 | [],h=>hq
 | .code _::k,h=>after_panicD (k:=k) hq h
 | .ops _ _::k,h=>after_panicD (k:=k) hq h
 | .blk _::k,h=>after_panicD (k:=k) hq h
 | .lp _::k,h=>after_panicD (k:=k) hq h
 | .sc::k,h=>after_panicD (k:=k) hq h
 | .np::k,h=>by cases h
 | .pl _ _ _::k,h=>by cases h
theorem goodP_end {fn:Func} {R:Ending→World→Prop} {av:AV} (h:g.s.ds=[])
  (hR:∀ γ w v,Gm.le γ0 γ→VR γ av v→HR B P.globals.size γ g.s.h g.s.c w→Keep B w0 w→R (.panicked [{ v:=v,recovered:=false }]) w):GoodP P B w0 γ0 nt (bodyPostD P fn R) g av:=
 ⟨fun γ a w v hle hf hv hr hb=>after_panic (fun a' h'=>by
  show Leaves P fn a'.tmps R a'.defers _ w
  rw [h']
  exact hR γ w v hle hv hr hb) (DR_nil (h ▸ hf.defs))⟩
def closeI:AV→Option Value
 | .ifc t a=>match closeT a with
   | some x=>some (.iface t x)
   | none=>none
 | a=>closeT a
theorem closeI_eq {γ:Gm} {av:AV} {x v:Value} (h:closeI av=some x) (hv:VR γ av v):v=x:=by
 unfold closeI at h
 split at h
 · split at h <;> first | (cases h;done) | skip
   rename_i t a y hy
   injection h with h
   subst h
   cases hv with
   | ifc h1=>rw [closeT_eq hy h1]
 · exact closeT_eq h hv
theorem goodP_endV {fn:Func} {R:Ending→World→Prop} {av:AV} (x:Value) (hx:closeI av=some x) (h:g.s.ds=[])
  (hR:∀ w,Keep B w0 w→R (.panicked [{ v:=x,recovered:=false }]) w):GoodP P B w0 γ0 nt (bodyPostD P fn R) g av:=
 goodP_end h (fun γ w v _ hv _ hb=>by rw [closeI_eq hx hv];exact hR w hb)
def lvP (P:Program) (I:Aux) (m:Nat) (fn:Func) (g:Cfg) (av:AV):R1:=aLeaves P (ev P I m) fn g.s.T g.s.ds (.pan av) g.s.h g.s.c
def lvN (P:Program) (I:Aux) (m:Nat) (fn:Func) (g:Cfg):R1:=aLeaves P (ev P I m) fn g.s.T g.s.ds .ret g.s.h g.s.c
def isVal:R1→Bool
 | .val _ _ _=>true
 | _=>false
def valAV:R1→AV
 | .val a _ _=>a
 | _ => .tup []
def valH:R1→Hp
 | .val _ h _=>h
 | _ => .leaf
def valC:R1→Nat
 | .val _ _ c=>c
 | _=>0
theorem isVal_eq {r:R1} (h:isVal r=true):r = .val (valAV r) (valH r) (valC r):=by cases r <;> first | rfl | cases h
theorem goodP_defers (cx:Cx P I B w0) (m:Nat) {fn:Func} {R:Ending→World→Prop} {av:AV} (hk:noPl g.k=true) (h:isVal (lvP P I m fn g av)=true)
  (hR:∀ γ w v,Gm.le γ0 γ→VR γ (valAV (lvP P I m fn g av)) v→HR B P.globals.size γ (valH (lvP P I m fn g av)) (valC (lvP P I m fn g av)) w→Keep B w0 w→R (.returned v) w):GoodP P B w0 γ0 nt (bodyPostD P fn R) g av:=
 ⟨fun γ a w v hle hf hv hr hb=>after_panicD (by
  show Leaves P fn a.tmps R a.defers _ w
  have hv':=isVal_eq h
  have hne:lvP P I m fn g av ≠ .fail:=by rw [hv'];simp
  have:=aLeaves_ok (m := .pan av) cx.hn (ev_ok cx.hm cx.hn cx.hW m) (fn:=fn) hf.defs ⟨v,hv,rfl⟩ hf.tmps hr hb hne
  refine leaves_mono (fun e w' hR'=>?_) this
  change Ret B P.globals.size γ w0 (lvP P I m fn g av) e w' at hR'
  rw [hv'] at hR'
  obtain ⟨γ',v',rfl,h1,h2,h3,h4⟩:=hR'
  exact hR γ' w' v' (hle.trans h1) h2 h3 h4) hk⟩
def atEnd (g:Cfg):Bool:=match g.k with
 | []=>true
 | .code .ret::_=>true
 | _=>false
theorem good_defers (cx:Cx P I B w0) (m:Nat) {fn:Func} {R:Ending→World→Prop} (hk:atEnd g=true) (h:isVal (lvN P I m fn g)=true)
  (hR:∀ γ w v,Gm.le γ0 γ→VR γ (valAV (lvN P I m fn g)) v→HR B P.globals.size γ (valH (lvN P I m fn g)) (valC (lvN P I m fn g)) w→Keep B w0 w→R (.returned v) w):Good P B w0 γ0 nt (bodyPostD P fn R) g:=by
 refine ⟨fun γ a w hle hf hr hb=>?_⟩
 have hv':=isVal_eq h
 have hne:lvN P I m fn g ≠ .fail:=by rw [hv'];simp
 have h0:=aLeaves_ok (m := .ret) cx.hn (ev_ok cx.hm cx.hn cx.hW m) (fn:=fn) (u := .returning) hf.defs rfl hf.tmps hr hb hne
 have key:Leaves P fn a.tmps R a.defers .returning w:=by
  refine leaves_mono (fun e w' hR'=>?_) h0
  change Ret B P.globals.size γ w0 (lvN P I m fn g) e w' at hR'
  rw [hv'] at hR'
  obtain ⟨γ',v',rfl,h1,h2,h3,h4⟩:=hR'
  exact hR γ' w' v' (hle.trans h1) h2 h3 h4
 obtain ⟨k,s⟩:=g
 unfold atEnd at hk
 simp only at hk
 split at hk
 · exact key
 · simp only [after,Exit.then]
   exact wp_ret (after_ret key)
 · cases hk
theorem good_opB {o:Oper} (h:hdOp P nt g=some o)
  (H:∀ γ a w (K:Act→World→Prop) (QQ:Exit→Act→World→Prop),Gm.le γ0 γ→FR γ nt g.s.T g.s.ds a→HR B P.globals.size γ g.s.h g.s.c w→Keep B w0 w→dstOf g=o.dst→(∀ d,o.dst=some d→d<nt)→
   (∀ a' w',after P Q (restK g) .normal a' w'→K a' w')→(∀ e a' w',after P Q (tailK g) e a' w'→QQ e a' w')→o.wp P a w K QQ):Good P B w0 γ0 nt Q g:=by
 obtain ⟨k,s⟩:=g
 unfold hdOp at h
 simp only at h
 split at h <;> first | (cases h;done) | skip
 rename_i arr o' l k'
 split at h <;> first | (cases h;done) | skip
 rename_i hw
 have hoo:o'=o∧∀ d,o'.dst=some d→d<nt:=by
  split at h
  · rename_i hd
    injection h with h
    exact ⟨h,fun d e=>by rw [hd] at e;cases e⟩
  · rename_i d hd
    split at h <;> first | (cases h;done) | skip
    rename_i hlt
    injection h with h
    exact ⟨h,fun d' e=>by rw [hd] at e;injection e with e;subst e;exact blt_lt hlt⟩
 obtain ⟨rfl,hd⟩:=hoo
 refine ⟨fun γ a w hle hf hr hb=>?_⟩
 simp only [after,Exit.then,wpL]
 have hw':=awanted_ok (a:=a) (fun j want p t av _ _ _ ht=>hf.tmps t av ht) hw
 rw [if_pos hw']
 left
 exact H γ a w _ _ hle hf hr hb rfl hd (fun a' w' h=>h) (fun e a' w' h=>h)
def hdR (P:Program) (I:Aux) (m nt:Nat) (g:Cfg):R1:=match hdOp P nt g with
 | none => .fail
 | some o=>evalOp P I (evCall P I (ev P I m)) g.s.T g.s.h g.s.c o
def isPan:R1→Bool
 | .pan _ _ _=>true
 | _=>false
def panAV:R1→AV
 | .pan a _ _=>a
 | _ => .tup []
def panH:R1→Hp
 | .pan _ h _=>h
 | _ => .leaf
def panC:R1→Nat
 | .pan _ _ c=>c
 | _=>0
theorem isPan_eq {r:R1} (h:isPan r=true):r = .pan (panAV r) (panH r) (panC r):=by cases r <;> first | rfl | cases h
def panG (P:Program) (I:Aux) (m nt:Nat) (g:Cfg):Cfg:=⟨tailK g,⟨g.s.T,panH (hdR P I m nt g),panC (hdR P I m nt g),g.s.ds⟩⟩
theorem good_panics (cx:Cx P I B w0) (m:Nat) (h:isPan (hdR P I m nt g)=true) (hg:GoodP P B w0 γ0 nt Q (panG P I m nt g) (panAV (hdR P I m nt g))):Good P B w0 γ0 nt Q g:=by
 have hp:=isPan_eq h
 obtain ⟨o,ho⟩:∃ o,hdOp P nt g=some o:=by
  cases ho:hdOp P nt g with
  | none=>unfold hdR at h;rw [ho] at h;cases h
  | some o=>exact ⟨o,rfl⟩
 have e:hdR P I m nt g=evalOp P I (evCall P I (ev P I m)) g.s.T g.s.h g.s.c o:=by unfold hdR;rw [ho]
 refine good_opB ho (fun γ a w K QQ hle hf hr hb hdst hdlt hK hQQ=>?_)
 have hok:=hf.ok (P:=P) (B:=B) (G:=0) hr.glob o.op.operands.toList
 refine evalOp_ok cx.hn (cx.calls m) hr hb hok ?_
 rw [← e,hp]
 intro γ' v w' h1 h2 h3 h4
 refine hQQ _ _ _ (hg.out γ' a w' v (hle.trans h1) (hf.mono h1) ?_ ?_ h4)
 · exact h2
 · exact h3
theorem good_callP0 (cx:Cx P I B w0) {f:FuncId} (xs:List Value) (F:Nat→Prop) {Pr Pp:World→Value→World→Prop} (h:hdCall P nt g=some (f,xs.map norm)) (hbod:bodied P f=some true) (hx:∀ γ vs,LR γ (xs.map norm) vs→vs=xs)
  (hown:trAll blkOwned g.s.h=true) (hFB:∀ k,F k→B k)
  (hc:∀ w,Keep B w0 w→Calls P f xs.toArray w fun e w'=>(∃ r,e = .returned r∧Pr w r w'∧Keep (fun k=>k<w.heap.size∧¬ F k) w w')∨(∃ r,e = .panicked [{ v:=r,recovered:=false }]∧Pp w r w'∧Keep (fun k=>k<w.heap.size∧¬ F k) w w'))
  (hg:∀ w r w' B',Keep B w0 w→Pr w r w'→Keep (fun k=>k<w.heap.size∧¬ F k) w w'→Keep (fun k=>B k∧¬ F k) w0 w'→(∀ k,B k→B' k)→(∀ k,w.heap.size≤k→k<w'.heap.size→B' k)→(∀ k,B' k→k<w'.heap.size)→Good P B' w' γ0 nt Q (nx0 g (norm r)))
  (hp:∀ w r w' B',Keep B w0 w→Pp w r w'→Keep (fun k=>k<w.heap.size∧¬ F k) w w'→Keep (fun k=>B k∧¬ F k) w0 w'→(∀ k,B k→B' k)→(∀ k,w.heap.size≤k→k<w'.heap.size→B' k)→(∀ k,B' k→k<w'.heap.size)→GoodP P B' w' γ0 nt Q ⟨tailK g,g.s⟩ (norm r)):Good P B w0 γ0 nt Q g:=by
 unfold hdCall at h
 split at h
 · cases h
 rename_i o ho
 refine good_opB ho (fun γ a w K QQ hle hf hr hb hdst hdlt hK hQQ=>?_)
 have hok:=hf.ok (P:=P) (B:=B) (G:=0) hr.glob o.op.operands.toList
 obtain ⟨fn,code,hfn,hbd⟩:=bodied_true hbod
 obtain ⟨vs,hl,hrun⟩:=callOf_ok hok h
 obtain rfl:=hx γ vs hl
 unfold Oper.wp
 rw [hrun,enter_ok cx.hn hfn hbd]
 refine (hc w hb).mono fun e w' hR=>?_
 have h2:Keep (fun k=>k<w.heap.size∧¬ F k) w w':=hR.elim (fun ⟨_,_,_,h⟩=>h) (fun ⟨_,_,_,h⟩=>h)
 have hk:Keep (fun k=>B k∧¬ F k) w0 w':=(hb.mono fun k h=>h.1).trans (h2.mono fun k h=>⟨hr.base k h.1,h.2⟩)
 have hnF:∀ b blk p,g.s.h.get b=some blk→γ b=some p→¬ F p.1:=fun b blk p hb1 hp hFp=>by
  obtain ⟨q,hq,hbr⟩:=hr.live b blk hb1
  rw [hp] at hq
  injection hq with hq
  subst hq
  exact blkOwned_ok (trAll_get hown _ _ hb1) hbr (hFB _ hFp)
 have hr':HR B P.globals.size γ g.s.h g.s.c w':=⟨fun b blk hb1=>by
  obtain ⟨p,hp,hbr⟩:=hr.live b blk hb1
  exact ⟨p,hp,hbr.kept (h2.block _ ⟨hbr.lt,hnF b blk p hb1 hp⟩)⟩,hr.inj,hr.fresh,hr.glob,fun k h=>Nat.lt_of_lt_of_le (hr.base k h) h2.size⟩
 have hlt:∀ {b blk k N},g.s.h.get b=some blk→γ b=some (k,N)→k<w.heap.size:=by
  intro b blk k N hb1 hγ
  obtain ⟨p,hp,hbr⟩:=hr.live b blk hb1
  rw [hγ] at hp
  injection hp with hp
  subst hp
  exact hbr.lt
 have hB:∀ b blk p,g.s.h.get b=some blk→γ b=some p→¬ B p.1→¬ (B p.1∨(p.1<w'.heap.size∧∀ b blk N,g.s.h.get b=some blk→γ b≠some (p.1,N))):=by
  intro b blk p hb1 hγ hnB hor
  rcases hor with h3 | h3
  · exact hnB h3
  · exact h3.2 b blk p.2 hb1 hγ
 have key3:HR (fun k=>B k∨(k<w'.heap.size∧∀ b blk N,g.s.h.get b=some blk→γ b≠some (k,N))) P.globals.size γ g.s.h g.s.c w':=by
  refine ⟨fun b blk hb1=>?_,hr'.inj,hr'.fresh,hr'.glob,fun k hkk=>hkk.elim (fun h3=>hr'.base k h3) (fun h3=>h3.1)⟩
  obtain ⟨p,hp,hbr⟩:=hr'.live b blk hb1
  refine ⟨p,hp,?_⟩
  have hBp:=hB b blk p hb1 hp
  cases blk with
  | cells ty own clean ex lim cs=>
    obtain ⟨h0,h5⟩:=hbr
    exact ⟨fun ho=>hBp (h0 ho),h5⟩
  | map es clock=>
    obtain ⟨h0,h5⟩:=hbr
    exact ⟨hBp h0,h5⟩
  | row e xs=>
    obtain ⟨h0,h5⟩:=hbr
    exact ⟨hBp h0,h5⟩
 rcases hR with ⟨r,rfl,h1,_⟩ | ⟨r,rfl,h1,_⟩
 rotate_left
 · have hp':=hp w r w' (fun k=>B k∨(k<w'.heap.size∧∀ b blk N,g.s.h.get b=some blk→γ b≠some (k,N))) hb h1 h2 hk (fun k => .inl)
    (fun k h3 h4 => .inr ⟨h4,fun b blk N hb1 hγ=>by have:=hlt hb1 hγ;omega⟩)
    (fun k hkk=>hkk.elim (fun h3=>hr'.base k h3) (fun h3=>h3.1))
   exact hQQ _ _ _ (hp'.out γ a w' r hle hf (norm_VR r) key3 (Keep.refl _ _))
 refine hK _ _ ?_
 have hg':=hg w r w' (fun k=>B k∨(k<w'.heap.size∧∀ b blk N,g.s.h.get b=some blk→γ b≠some (k,N))) hb h1 h2 hk (fun k => .inl)
  (fun k h3 h4 => .inr ⟨h4,fun b blk N hb1 hγ=>by have:=hlt hb1 hγ;omega⟩)
  (fun k hkk=>hkk.elim (fun h3=>hr'.base k h3) (fun h3=>h3.1))
 have key1:FR γ nt (nx0 g (norm r)).s.T (nx0 g (norm r)).s.ds (a.put o.dst r):=by
  have hf':=hf.put (dst:=o.dst) (av:=norm r) (v:=r) (T':=putD o.dst g.s.T (norm r)) (Gm.le.refl γ) (norm_VR r) (by
   unfold tput putD
   cases hd:o.dst with
   | none=>rfl
   | some d=>
     have:Nat.blt d nt=true:=Nat.ble_eq_true_of_le (hdlt d hd)
     simp only [this])
  have e:(nx0 g (norm r)).s.T=putD o.dst g.s.T (norm r)∧(nx0 g (norm r)).s.ds=g.s.ds:=by
   rw [← hdst]
   obtain ⟨k,s⟩:=g
   unfold nx0 nx dstOf putD
   unfold hdOp at ho
   simp only at ho
   split at ho <;> first | (cases ho;done) | skip
   exact ⟨rfl,rfl⟩
  rw [e.1,e.2]
  exact hf'
 have key2:HR (fun k=>B k∨(k<w'.heap.size∧∀ b blk N,g.s.h.get b=some blk→γ b≠some (k,N))) P.globals.size γ (nx0 g (norm r)).s.h (nx0 g (norm r)).s.c w':=by
  have e:(nx0 g (norm r)).s.h=g.s.h∧(nx0 g (norm r)).s.c=g.s.c:=by
   obtain ⟨k,s⟩:=g
   unfold nx0 nx
   unfold hdOp at ho
   simp only at ho
   split at ho <;> first | (cases ho;done) | skip
   exact ⟨rfl,rfl⟩
  rw [e.1,e.2]
  refine ⟨fun b blk hb1=>?_,hr'.inj,hr'.fresh,hr'.glob,fun k hkk=>hkk.elim (fun h3=>hr'.base k h3) (fun h3=>h3.1)⟩
  obtain ⟨p,hp,hbr⟩:=hr'.live b blk hb1
  refine ⟨p,hp,?_⟩
  have hBp:=hB b blk p hb1 hp
  cases blk with
  | cells ty own clean ex lim cs=>
    obtain ⟨h0,h5⟩:=hbr
    exact ⟨fun ho=>hBp (h0 ho),h5⟩
  | map es clock=>
    obtain ⟨h0,h5⟩:=hbr
    exact ⟨hBp h0,h5⟩
  | row e xs=>
    obtain ⟨h0,h5⟩:=hbr
    exact ⟨hBp h0,h5⟩
 have hfin:=hg'.out γ (a.put o.dst r) w' hle key1 key2 (Keep.refl _ _)
 have e:(nx0 g (norm r)).k=restK g:=by
  obtain ⟨k,s⟩:=g
  unfold nx0 nx restK
  unfold hdOp at ho
  simp only at ho
  split at ho <;> first | (cases ho;done) | skip
  rfl
 rw [e] at hfin
 exact hfin
end
end Go.Sy
end
end
section
noncomputable section
namespace Go.Sy
open Go Go.RowKit
def cellOf (bx off:Nat) (h:Hp):Option AV:=match h.get bx with
 | some (.cells _ _ _ _ lim cs)=>match Nat.blt off lim with
   | true=>cs.get off
   | false=>none
 | _=>none
section
variable {P:Program} {I:Aux} {B:Nat→Prop} {w0:World} {γ0:Gm} {nt:Nat} {Q:Exit→Act→World→Prop} {g:Cfg}
theorem good_giveB (bx off b e esz n:Nat) (xs:List Value) (h:cellOf bx off g.s.h=some (.slg b 0 n esz)) (hb1:g.s.h.get b=some (.row e xs)) (hlen:xs.length=n*esz)
  (hg:∀ k cap w1 B1,Keep B w0 w1→(∀ j,B j→B1 j)→(∀ j,B1 j→j<w1.heap.size)→SlAt B1 w1 (some ⟨k,0,none⟩) n esz xs→
   Good P B1 w1 γ0 nt Q ⟨g.k,⟨g.s.T,plainH bx off (.slice (some ⟨k,0,none⟩) n cap) (g.s.h.put b none),g.s.c,g.s.ds⟩⟩):Good P B w0 γ0 nt Q g:=by
 unfold cellOf at h
 split at h <;> first | (cases h;done) | skip
 rename_i ty0 own0 cl0 ex0 lim0 cs0 hbx
 split at h <;> first | (cases h;done) | skip
 rename_i hoff
 have hoff:=blt_lt hoff
 have hne:bx≠b:=fun e1=>by subst e1;rw [hbx] at hb1;cases hb1
 refine ⟨fun γ a w hle hf hr hk=>?_⟩
 obtain ⟨p,hp,hbr⟩:=hr.live b _ hb1
 obtain ⟨h0,c,h1,h2,h3⟩:=hbr
 obtain ⟨px,hpx,hbrx⟩:=hr.live bx _ hbx
 obtain ⟨hx0,cx,tyx,fzx,hx1,hx2,hx3,hx4⟩:=hbrx
 obtain ⟨v,hv1,hv2⟩:=hx4 off _ hoff h
 obtain ⟨n1,N,cap,rfl,hγ⟩:∃ n1 N cap,v = .slice (some ⟨n1,0,none⟩) n cap∧γ b=some (n1,N):=by
  cases hv2 with
  | slg h hl hm ho=>obtain ⟨q1,q2⟩:=ho (.inl rfl);subst q1;exact ⟨_,_,_,rfl,h⟩
 rw [hγ] at hp
 injection hp with hp
 subst hp
 simp only at h0 h1 h2
 have hlt:n1<w.heap.size:=(Array.getElem?_eq_some_iff.1 h1).1
 have hr1:HR (fun j=>B j∨j=n1) P.globals.size γ (g.s.h.put b none) g.s.c w:=by
  refine ⟨fun b2 blk2 hb2=>?_,fun b2 b3 blk2 blk3 p2 p3 h5 h6 g1 g2 e=>?_,hr.fresh,hr.glob,fun j hj=>hj.elim (fun h=>hr.base j h) (fun e=>by subst e;exact hlt)⟩
  · rw [Tr.get_put] at hb2
    split at hb2
    · cases hb2
    rename_i hne
    obtain ⟨q,hq,hbr2⟩:=hr.live b2 blk2 hb2
    have hne2:q.1≠n1:=fun e=>hne (hr.inj _ _ _ _ _ _ hb2 hb1 hq hγ e)
    have key:¬ B q.1→¬ (B q.1∨q.1=n1):=fun h1 h2=>h2.elim h1 hne2
    refine ⟨q,hq,?_⟩
    cases blk2 with
    | cells ty own cl ex lim cs=>exact ⟨fun e=>key (hbr2.1 e),hbr2.2⟩
    | map es clock=>exact ⟨key hbr2.1,hbr2.2⟩
    | row e xs=>exact ⟨key hbr2.1,hbr2.2⟩
  · rw [Tr.get_put] at h5 h6
    split at h5
    · cases h5
    split at h6
    · cases h6
    exact hr.inj _ _ _ _ _ _ h5 h6 g1 g2 e
 have hbx2:(g.s.h.put b none).get bx=some (.cells ty0 own0 cl0 ex0 lim0 cs0):=by rw [Tr.get_put,if_neg hne];exact hbx
 refine (hg n1 cap w (fun j=>B j∨j=n1) hk (fun j => .inl) (fun j hj=>hj.elim (fun h=>hr.base j h) (fun e=>by subst e;exact hlt)) ⟨hlen,.inr ⟨rfl,.inr rfl,fun j v hv=>?_⟩⟩).out γ a w hle ⟨hf.size,hf.tmps,hf.defs⟩ ?_ (Keep.refl _ _)
 · rw [← h3] at hv
   have hj:=(List.getElem?_eq_some_iff.1 hv).1
   rw [List.length_take] at hj
   rw [List.getElem?_take,if_pos (by omega)] at hv
   simp only [gB,oB,Nat.zero_add]
   simp [World.cell?,h1]
   simpa using hv
 · show HR _ _ _ (plainH bx off (.slice (some ⟨n1,0,none⟩) n cap) (g.s.h.put b none)) _ _
   obtain ⟨px2,hpx2,hbrx2⟩:=hr1.live bx _ hbx2
   obtain ⟨hy0,cy,tyy,fzy,hy1,hy2,hy3,hy4⟩:=hbrx2
   obtain rfl:px2=px:=by rw [hpx] at hpx2;injection hpx2 with e;exact e.symm
   have hcc:cy=cx:=by rw [hx1] at hy1;injection hy1 with e;injection e with e1 e2;exact e1.symm
   subst hcc
   unfold plainH
   rw [hbx2]
   refine hr1.turn hbx2 hpx2 (Nat.le_refl _) (fun _ _ _=>rfl) ⟨hy0,cy,tyy,fzy,hy1,hy2,hy3,fun i a' hi hi'=>?_⟩
   rw [Tr.get_put] at hi'
   split at hi'
   · rename_i e
     subst e
     injection hi' with hi'
     subst hi'
     exact ⟨_,hv1,.v _⟩
   · exact hy4 i a' hi hi'
end
end Go.Sy
end
end
section
noncomputable section
namespace Go.Sy
open Go Go.RowKit Go.As
section
variable {P:Program} {I:Aux} {B:Nat→Prop} {w0:World} {γ0:Gm} {nt:Nat} {Q:Exit→Act→World→Prop} {g:Cfg}
theorem good_giveW (t b ty esz n:Nat) (vals:List Value) (h:g.s.T.get t=some (.slg b 0 n esz)) (hb:giveB (g.s.h.get b)=some (ty,vals)) 
  (hg:∀ k cap w1 B1,Keep B w0 w1→(∀ j,B j→B1 j)→(∀ j,B1 j→j<w1.heap.size)→B1 k→w1.heap[k]?=some (.cells vals.toArray ty (0,0))→cap*esz=vals.length→
   Good P B1 w1 γ0 nt Q ⟨g.k,⟨g.s.T.put t (some (.v (.slice (some ⟨k,0,none⟩) n cap))),g.s.h.put b none,g.s.c,g.s.ds⟩⟩):Good P B w0 γ0 nt Q g:=by
 unfold giveB at hb
 split at hb <;> first | (cases hb;done) | skip
 rename_i ty1 lim cs hb1
 split at hb <;> first | (cases hb;done) | skip
 rename_i r hget
 injection hb with hb
 injection hb with e1 e2
 subst e1 e2
 obtain ⟨hlen,hcell⟩:=getsV_get hget
 refine ⟨fun γ a w hle hf hr hk=>?_⟩
 obtain ⟨p,hp,hbr⟩:=hr.live b _ hb1
 obtain ⟨h0,c,ty',fz,h1,h2,h3,h4⟩:=hbr
 obtain ⟨v,hv1,hv2⟩:=hf.tmps _ _ h
 obtain ⟨n1,N,cap,rfl,hγ,hcN⟩:∃ n1 N cap,v = .slice (some ⟨n1,0,none⟩) n cap∧γ b=some (n1,N)∧cap*esz=N:=by
  cases hv2 with
  | slg h hl hm ho=>obtain ⟨q1,q2⟩:=ho (.inl rfl);subst q1;exact ⟨_,_,_,rfl,h,by omega⟩
 rw [hγ] at hp
 injection hp with hp
 subst hp
 obtain ⟨hfz,hty⟩:=h3.1 rfl
 have hsz:=(h3.2 rfl).1
 subst hfz hty
 have hnB:=h0 rfl
 have hlt:n1<w.heap.size:=(Array.getElem?_eq_some_iff.1 h1).1
 have hc:c=r.toArray:=by
  apply Array.ext'
  apply List.ext_getElem?
  intro i
  rcases Nat.lt_or_ge i r.length with hi | hi
  · have e1:r[i]?=some r[i]:=List.getElem?_eq_getElem hi
    obtain ⟨a1,e2,e3⟩:=hcell i r[i] e1
    rw [Nat.zero_add] at e2
    obtain ⟨x,hx1,hx2⟩:=h4 i _ (by omega) e2
    have e4:=close_eq e3 hx2
    subst e4
    rw [e1]
    simpa using hx1
  · have e1:c.toList.length=c.size:=Array.length_toList
    rw [List.getElem?_eq_none hi,List.getElem?_eq_none (by omega)]
 subst hc
 refine (hg n1 cap w (fun j=>B j∨j=n1) hk (fun j => .inl) (fun j hj=>hj.elim (fun h=>hr.base j h) (fun e=>by subst e;exact hlt)) (.inr rfl) h1 (by simpa using hcN.trans h2.symm)).out γ a w hle ⟨hf.size,fun t' av ht=>?_,hf.defs⟩ ⟨fun b2 blk2 hb2=>?_,fun b2 b3 blk2 blk3 p2 p3 h5 h6 g1 g2 e=>?_,hr.fresh,hr.glob,fun j hj=>hj.elim (fun h=>hr.base j h) (fun e=>by subst e;exact hlt)⟩ (Keep.refl _ _)
 · simp only at ht
   rw [Tr.get_put] at ht
   split at ht
   · rename_i e
     subst e
     injection ht with ht
     subst ht
     exact ⟨_,hv1,.v _⟩
   · exact hf.tmps t' av ht
 · simp only at hb2
   rw [Tr.get_put] at hb2
   split at hb2
   · cases hb2
   rename_i hne
   obtain ⟨q,hq,hbr2⟩:=hr.live b2 blk2 hb2
   have hne2:q.1≠n1:=fun e=>hne (hr.inj _ _ _ _ _ _ hb2 hb1 hq hγ e)
   have key:¬ B q.1→¬ (B q.1∨q.1=n1):=fun h1 h2=>h2.elim h1 hne2
   refine ⟨q,hq,?_⟩
   cases blk2 with
   | cells ty own cl ex lim cs=>exact ⟨fun e=>key (hbr2.1 e),hbr2.2⟩
   | map es clock=>exact ⟨key hbr2.1,hbr2.2⟩
   | row e xs=>exact ⟨key hbr2.1,hbr2.2⟩
 · simp only at h5 h6
   rw [Tr.get_put] at h5 h6
   split at h5
   · cases h5
   split at h6
   · cases h6
   exact hr.inj _ _ _ _ _ _ h5 h6 g1 g2 e
theorem enterK (hn:Fine P I) {kk ty:Nat} {c:Array Value} {l:List AV} {f:FuncId} {fn:Func} (hf:P.funcs[f]?=some fn) (hb':fn.body.isSome=true) {args:List AV} {vs:List Value} (hl:∀ γ:Gm,γ P.globals.size=some (kk,c.size)→LR γ args vs) (hle:Nat.ble args.length fn.ntmps=true) {w:World} (hkk:w.heap[kk]?=some (.cells c ty (0,0))) (hc:∀ γ,LR γ l c.toList) {R:Ending→World→Prop}
  (hgd:∀ γ0,(∀ b,P.globals.size+1≤b→γ0 b=none)→Good P (·<w.heap.size) w γ0 fn.ntmps (bodyPostD P fn R) ⟨[.code (fn.body.getD .skip)],⟨putL .leaf 0 args,mkH [(P.globals.size,some (.cells ty false true true c.size (putL .leaf 0 l)))],P.globals.size+1,[]⟩⟩):Calls P f vs.toArray w R:=by
 obtain ⟨code,hb⟩:=Option.isSome_iff_exists.1 hb'
 have hle:args.length≤fn.ntmps:=Nat.le_of_ble_eq_true hle
 obtain ⟨γ,hγd⟩:∃ γ:Gm,γ=fun x=>if x<P.globals.size then some (x,0) else if x=P.globals.size then some (kk,c.size) else none:=⟨_,rfl⟩
 have hγG:γ P.globals.size=some (kk,c.size):=by rw [hγd];simp
 have hget:∀ b blk,(mkH [(P.globals.size,some (Blk.cells ty false true true c.size (putL .leaf 0 l)))]).get b=some blk→b=P.globals.size∧blk = .cells ty false true true c.size (putL .leaf 0 l):=by
  intro b blk hb'
  simp only [mkH] at hb'
  rw [Tr.get_put] at hb'
  split at hb'
  · rename_i e
    injection hb' with hb'
    exact ⟨e,hb'.symm⟩
  · rw [Tr.get_leaf] at hb';cases hb'
 have hγ0:∀ b,P.globals.size+1≤b→γ b=none:=fun b hb=>by
  rw [hγd];show (if b<P.globals.size then _ else if b=P.globals.size then _ else _)=_;rw [if_neg (by omega),if_neg (by omega)]
 have hr:HR (·<w.heap.size) P.globals.size γ (mkH [(P.globals.size,some (Blk.cells ty false true true c.size (putL .leaf 0 l)))]) (P.globals.size+1) w:=by
  refine ⟨fun b blk hb'=>?_,fun b b' blk blk' p p' h1 h2 _ _ _=>(hget _ _ h1).1.trans (hget _ _ h2).1.symm,hγ0,
   fun x hx=>⟨0,by rw [hγd];show (if x<P.globals.size then _ else _)=_;rw [if_pos hx]⟩,fun k hk=>hk⟩
  obtain ⟨rfl,rfl⟩:=hget b blk hb'
  refine ⟨(kk,c.size),hγG,fun e=>(by cases e),c,ty,(0,0),hkk,rfl,⟨fun _=>⟨rfl,rfl⟩,fun _=>⟨rfl,rfl⟩⟩,fun i av hlt hi=>?_⟩
  have hl2:=hc γ
  have hll:=hl2.1
  rw [putL_get,if_pos ⟨by omega,by simp at hll;omega⟩] at hi
  obtain ⟨v,h1,h2⟩:=hl2.get (by simpa using hi)
  exact ⟨v,by simpa using h1,h2⟩
 refine calls_of_wp_defers hf hb ?_
 have hfr:FR γ fn.ntmps (putL .leaf 0 args) [] { tmps:=vs.toArray++Array.replicate (fn.ntmps - vs.toArray.size) undef,defers:=[] }:=by
  refine ⟨?_,putL_TR (by simpa using hl γ hγG) _,trivial⟩
  have:=(hl γ hγG).1
  simp
  omega
 have:=(hgd _ hγ0).out _ _ w (Gm.le.refl _) hfr hr (Keep.refl _ _)
 simp only [after,hb,Option.getD_some] at this
 exact wp_mono this fun e a w h=>by cases e <;> exact h
end
end Go.Sy
end
end
section
namespace Go.Proofs.YtinjiigdijbjeaaGreatDoor
open Go.RowKit Go.As Go.Sy
section
variable {B:Nat→Prop} {w0:World} {γ0:Gm} {nt:Nat} {Q:Exit→Act→World→Prop} {g:Cfg} {q:QCfg}
theorem rk (h:Sy.Good Tryz.prog B w0 γ0 nt Q (run Tryz.prog syI (evCall Tryz.prog syI (ev Tryz.prog syI 0)) nt [] 60 0 g)):Sy.Good Tryz.prog B w0 γ0 nt Q g:=run_ok (sy_cx _ _) 0 [] 60 0 h
theorem rs (stops:List Nat) (n au:Nat) (h:Sy.Good Tryz.prog B w0 γ0 nt Q (run Tryz.prog syI (evCall Tryz.prog syI (ev Tryz.prog syI 0)) nt stops n au g)):Sy.Good Tryz.prog B w0 γ0 nt Q g:=run_ok (sy_cx _ _) 0 stops n au h
theorem gS (t:Nat) {x:Value} (y:Value) (e:x=y) (hg:Sy.Good Tryz.prog B w0 γ0 nt Q (setT g t (norm y))) (h:g.s.T.get t=some (.v x):=by kernel_rfl):Sy.Good Tryz.prog B w0 γ0 nt Q g:=good_set t y h e hg
theorem gF (t:Nat) (a b:Int) (e:¬ a=b) (hg:Sy.Good Tryz.prog B w0 γ0 nt Q (setT g t (norm (.bool false)))) (h:g.s.T.get t=some (.v (.bool (intEq a b))):=by kernel_rfl):Sy.Good Tryz.prog B w0 γ0 nt Q g:=good_set t (.bool false) h (by rw [eq_f e]) hg
theorem gT (t:Nat) (a b:Int) (e:a=b) (hg:Sy.Good Tryz.prog B w0 γ0 nt Q (setT g t (norm (.bool true)))) (h:g.s.T.get t=some (.v (.bool (intEq a b))):=by kernel_rfl):Sy.Good Tryz.prog B w0 γ0 nt Q g:=good_set t (.bool true) h (by rw [eq_t e]) hg
theorem gV {S:Sem Value} (x:Value) (hrun:∀ w,Keep B w0 w→S.run Tryz.prog w = .ok x w) (hg:Sy.Good Tryz.prog B w0 γ0 nt Q (nx0 g (norm x))) (h:hdSem Tryz.prog nt g=some S:=by kernel_rfl):Sy.Good Tryz.prog B w0 γ0 nt Q g:=good_val x h hrun hg
theorem gK {b:Bool} (c:Bool) (e:b=c) (hg:Sy.Good Tryz.prog B w0 γ0 nt Q (takeC c g)) (h:condOf Tryz.prog g=some (.v (.bool b)):=by kernel_rfl):Sy.Good Tryz.prog B w0 γ0 nt Q g:=good_take c h e hg
theorem gX {f:FuncId} (xs:List Value) (r:Value) (hc:∀ w,Keep B w0 w→Calls Tryz.prog f xs.toArray w fun e w'=>e = .returned r∧Below w.heap.size w w') (hg:Sy.Good Tryz.prog B w0 γ0 nt Q (nx0 g (norm r)))
 (h:hdCall Tryz.prog nt g=some (f,xs.map norm):=by kernel_rfl) (hbod:bodied Tryz.prog f=some true:=by kernel_rfl) (hx:closeLL (xs.map norm)=some xs:=by kernel_rfl):Sy.Good Tryz.prog B w0 γ0 nt Q g:=good_callB (sy_cx _ _) xs r h hbod hx hc hg
theorem gP {f:FuncId} (xs:List Value) (r:Value) (hc:∀ w,Keep B w0 w→Calls Tryz.prog f xs.toArray w fun e w'=>e = .returned r∧w=w') (hg:Sy.Good Tryz.prog B w0 γ0 nt Q (nx0 g (norm r)))
 (h:hdCall Tryz.prog nt g=some (f,xs.map norm):=by kernel_rfl) (hbod:bodied Tryz.prog f=some true:=by kernel_rfl) (hx:closeLL (xs.map norm)=some xs:=by kernel_rfl):Sy.Good Tryz.prog B w0 γ0 nt Q g:=good_callP (sy_cx _ _) xs r h hbod hx hc hg
theorem gE {f:FuncId} (xs:List Value) (Pr:Value→Prop) (hc:∀ w,Keep B w0 w→Calls Tryz.prog f xs.toArray w fun e w'=>∃ r,e = .returned r∧Pr r∧Below w.heap.size w w') (hg:∀ r w',Pr r→Keep B w0 w'→Sy.Good Tryz.prog B w0 γ0 nt Q (nx0 g (norm r)))
 (h:hdCall Tryz.prog nt g=some (f,xs.map norm):=by kernel_rfl) (hbod:bodied Tryz.prog f=some true:=by kernel_rfl) (hx:closeLL (xs.map norm)=some xs:=by kernel_rfl):Sy.Good Tryz.prog B w0 γ0 nt Q g:=good_callE (sy_cx _ _) xs Pr h hbod hx hc hg
theorem gN {f:FuncId} (xs:List Value) (Pr:Value→Prop) (hc:∀ w,Keep B w0 w→Calls Tryz.prog f xs.toArray w fun e w'=>∃ r,e = .returned r∧Pr r∧Below w.heap.size w w') (hg:∀ r w',Pr r→Keep B w0 w'→Sy.Good Tryz.prog B w0 γ0 nt Q (nx0 g (norm r)))
 (h:hdCall Tryz.prog nt g=some (f,xs.map norm):=by kernel_rfl) (hbod:bodied Tryz.prog f=some true:=by kernel_rfl):Sy.Good Tryz.prog B w0 γ0 nt Q g:=good_callN (sy_cx _ _) xs Pr h hbod hc hg
theorem gM {f:FuncId} (xs:List Value) {Pr:World→Value→World→Prop} (hc:∀ w,Keep B w0 w→Calls Tryz.prog f xs.toArray w fun e w'=>∃ r,e = .returned r∧Pr w r w'∧Below w.heap.size w w')
 (hg:∀ w r w' B',Keep B w0 w→Pr w r w'→Below w.heap.size w w'→Keep B w0 w'→(∀ k,B k→B' k)→(∀ k,w.heap.size≤k→k<w'.heap.size→B' k)→(∀ k,B' k→k<w'.heap.size)→Sy.Good Tryz.prog B' w' γ0 nt Q (nx0 g (norm r)))
 (h:hdCall Tryz.prog nt g=some (f,xs.map norm):=by kernel_rfl) (hbod:bodied Tryz.prog f=some true:=by kernel_rfl) (hx:closeLL (xs.map norm)=some xs:=by kernel_rfl):Sy.Good Tryz.prog B w0 γ0 nt Q g:=good_callM (sy_cx _ _) xs h hbod hx hc hg
theorem gR {fn:Func} {R:Ending→World→Prop} (r:Value) (hR:∀ w,Keep B w0 w→R (.returned r) w) (h:endV Tryz.prog fn g=some r:=by kernel_rfl):Sy.Good Tryz.prog B w0 γ0 nt (bodyPostD Tryz.prog fn R) g:=good_endV r h hR
theorem gG (t b:Nat) (ty:Nat) (vals:List Value) (hg:∀ k w1 B1,Keep B w0 w1→(∀ j,B j→B1 j)→B1 k→¬ B k→(∀ j,B1 j→j<w1.heap.size)→w1.heap[k]?=some (.cells vals.toArray ty (0,0))→
  Sy.Good Tryz.prog B1 w1 γ0 nt Q ⟨g.k,⟨g.s.T.put t (some (.v (.pointer (some ⟨k,0,none⟩)))),g.s.h.put b none,g.s.c,g.s.ds⟩⟩)
 (h:g.s.T.get t=some (.ptr b 0):=by kernel_rfl) (hb:giveB (g.s.h.get b)=some (ty,vals):=by kernel_rfl):Sy.Good Tryz.prog B w0 γ0 nt Q g:=good_give t b ty vals h hb hg
theorem cat_strW (x y:Operand) (a b:List UInt8) (h:a.length+b.length≤9223372036854775807) (w:World):
  ((do eqGuard .add 9 x y (.string (str a)) (.string (str b));binOp .add 9 (.string (str a)) (.string (str b))):Sem Value).run Tryz.prog w = .ok (.string (str (a++b))) w:=by
 have e:(eqGuard .add 9 x y (.string (str a)) (.string (str b))).run Tryz.prog w = .ok () w:=rfl
 rw [Sem.run_bind,e,← str_append]
 show (Op.stringOp .add (str a) (str b)).run Tryz.prog w=_
 exact run_string_add_sum w (str a) (str b) (by rw [str_size,str_size];exact h)
def catXY:Option Oper→Operand×Operand
 | some o=>match o.op with
   | .binOp _ _ x y _=>(x,y)
   | _=>(.tmp 0,.tmp 0)
 | none=>(.tmp 0,.tmp 0)
theorem gC (a b:List UInt8) (hl:a.length+b.length≤9223372036854775807) (hg:Sy.Good Tryz.prog B w0 γ0 nt Q (nx0 g (norm (.string (str (a++b))))))
  (h:hdSem Tryz.prog nt g=some (do eqGuard .add 9 (catXY (hdOp Tryz.prog nt g)).1 (catXY (hdOp Tryz.prog nt g)).2 (.string (str a)) (.string (str b));binOp .add 9 (.string (str a)) (.string (str b))):=by kernel_rfl):Sy.Good Tryz.prog B w0 γ0 nt Q g:=
 good_val _ h (fun w _=>cat_strW _ _ a b hl w) hg
theorem qV {S:Sem Value} (x:Value) (hrun:∀ w,Keep B w0 w→S.run Tryz.prog w = .ok x w) (hg:Sy.GoodQ Tryz.prog B w0 γ0 nt Q (qNx q (norm x))) (h:qSem Tryz.prog nt q=some S:=by kernel_rfl):Sy.GoodQ Tryz.prog B w0 γ0 nt Q q:=q_val x h hrun hg
theorem qB {f:FuncId} (xs:List Value) (r:Value) (hc:∀ w,Keep B w0 w→Calls Tryz.prog f xs.toArray w fun e w'=>e = .returned r∧Below w.heap.size w w') (hg:Sy.GoodQ Tryz.prog B w0 γ0 nt Q (qNx q (norm r)))
 (h:qCall Tryz.prog nt q=some (f,xs.map norm):=by kernel_rfl) (hbod:bodied Tryz.prog f=some true:=by kernel_rfl) (hx:closeLL (xs.map norm)=some xs:=by kernel_rfl):Sy.GoodQ Tryz.prog B w0 γ0 nt Q q:=q_callB (sy_cx _ _) xs r h hbod hx hc hg
theorem qS (t:Nat) {x:Value} (y:Value) (e:x=y) (hg:Sy.GoodQ Tryz.prog B w0 γ0 nt Q (qSet q t (norm y))) (h:q.s.T.get t=some (.v x):=by kernel_rfl):Sy.GoodQ Tryz.prog B w0 γ0 nt Q q:=q_set t y h e hg
theorem qE (hg:Sy.Good Tryz.prog B w0 γ0 nt Q (qOut q)) (h:qDone q=true:=by kernel_rfl):Sy.GoodQ Tryz.prog B w0 γ0 nt Q q:=q_end h hg
theorem pR (S:World→Prop) (hS:∀ w,Keep B w0 w→S w) (hg:Sy.Good Tryz.prog B w0 γ0 nt Q (pRun g)) (hSe:plS g=S:=by kernel_rfl) (h:isRun g=true:=by kernel_rfl):Sy.Good Tryz.prog B w0 γ0 nt Q g:=p_run S hSe hS h hg
theorem gU (K:List It) (lT:List (Nat×AV)) (lH:List (Nat×Option Blk)) (c2:Nat) (hγ:∀ b,c2≤b→γ0 b=none) (hg:Sy.Good Tryz.prog B w0 γ0 nt Q ⟨K,⟨mkT lT,mkH lH,c2,[]⟩⟩)
 (hk:g.k=K:=by kernel_rfl) (hds:g.s.ds=[]:=by kernel_rfl) (hT:lT.map (fun p=>g.s.T.get p.1)=lT.map (fun p=>some p.2):=by kernel_rfl) (hTl:allLtT c2 lT=true:=by kernel_rfl)
 (hH:lH.map (fun p=>g.s.h.get p.1)=lH.map (fun p=>p.2):=by kernel_rfl) (hHl:allLtH c2 lH=true:=by kernel_rfl) (hG:Nat.ble Tryz.prog.globals.size c2=true:=by kernel_rfl):Sy.Good Tryz.prog B w0 γ0 nt Q g:=good_sub K lT lH c2 hk hds hT hTl hH hHl hγ hG hg
end
end Go.Proofs.YtinjiigdijbjeaaGreatDoor
end
section
namespace Go.Proofs.YtinjiigdijbjeaaGreatDoor
open Go.RowKit Go.As Go.Sy
abbrev nI (x:Int):Value := .int .i64 x
abbrev nP (b:Nat):Value := .pointer (some ⟨b,0,none⟩)
abbrev nT (l:List UInt8):Value := .string (str l)
abbrev vI (x:Int):AV := .v (.int .i64 x)
abbrev vP (b:Nat):AV := .v (.pointer (some ⟨b,0,none⟩))
abbrev vT (l:List UInt8):AV := .v (.string (str l))
abbrev vB (b:Bool):AV := .v (.bool b)
abbrev vL (a:Option Addr) (n c:Nat):AV := .v (.slice a n c)
abbrev n8 (x:Int):Value := .int .u8 x
abbrev n6 (x:Int):Value := .int .u64 x
abbrev v8 (x:Int):AV := .v (.int .u8 x)
abbrev v6 (x:Int):AV := .v (.int .u64 x)
abbrev xA (o t b:Int) (s:List UInt8) (a:Option Addr) (n c:Nat):List AV:=[.v (.int .u8 o),.v (.int .u8 t),.v (.int .u64 b),.v (.string (str s)),.v (.slice a n c)]
noncomputable abbrev bK (t n:Nat) (l:List AV):Option Blk:=some (.cells t true true true n (putL .leaf 0 l))
abbrev xL (o t b:Int) (s:List UInt8) (a:Option Addr) (n c:Nat):List Value:=[.int .u8 o,.int .u8 t,.int .u64 b,.string (str s),.slice a n c]
abbrev xV (o t b:Int) (s:List UInt8) (a:Option Addr) (n c:Nat):Value := .agg #[.int .u8 o,.int .u8 t,.int .u64 b,.string (str s),.slice a n c]
abbrev yL (k:Int) (m:List UInt8) (o t b:Int) (s:List UInt8) (a:Option Addr) (n c:Nat) (a1:Option Addr) (n1 c1:Nat) (a2:Option Addr) (n2 c2:Nat):List Value:=[.int .i64 k,.string (str m),.int .u8 o,.int .u8 t,.int .u64 b,.string (str s),.slice a n c,.slice a1 n1 c1,.slice a2 n2 c2]
abbrev yV (k:Int) (m:List UInt8) (o t b:Int) (s:List UInt8) (a:Option Addr) (n c:Nat) (a1:Option Addr) (n1 c1:Nat) (a2:Option Addr) (n2 c2:Nat):Value := .agg #[.int .i64 k,.string (str m),.int .u8 o,.int .u8 t,.int .u64 b,.string (str s),.slice a n c,.slice a1 n1 c1,.slice a2 n2 c2]
abbrev CB (f:FuncId) (xs:Array Value) (w:World) (x:Value):Prop:=Calls Tryz.prog f xs w fun r w'=>r = .returned x∧Below w.heap.size w w'
abbrev CP (f:FuncId) (xs:Array Value) (w:World) (x:Value):Prop:=Calls Tryz.prog f xs w fun r w'=>r = .returned x∧w=w'
theorem kU {B:Nat→Prop} {w w':World} (hk:Sy.Keep B w w'):∀ k,k<w.heap.size→k<w'.heap.size:=fun k h=>Nat.lt_of_lt_of_le h hk.size
theorem gA {γ:Gm} {n c:Nat} (h:∀ b,n≤b→γ b=none):∀ b,n+c≤b→γ b=none:=fun b hb=>h b (Nat.le_trans (Nat.le_add_right _ _) hb)
theorem lS1 {α:Type} {x:α} {l:List α}:l.length<(x::l).length:=Nat.lt_succ_self _
theorem eN (vs:List Value) {f:FuncId} {fn:Func} (hf:Tryz.prog.funcs[f]?=some fn) {w:World} {R:Ending→World→Prop}
 (hg:∀ γ0,(∀ b,Tryz.prog.globals.size≤b→γ0 b=none)→Sy.Good Tryz.prog (·<w.heap.size) w γ0 fn.ntmps (bodyPostD Tryz.prog fn R) (Sy.start Tryz.prog fn (vs.map norm)))
 (hb:fn.body.isSome=true:=by exact rfl) (hle:Nat.ble (vs.map norm).length fn.ntmps=true:=by exact rfl):Calls Tryz.prog f vs.toArray w R:=Sy.enter sy_fine hf hb (fun γ=>norms_LR vs) hle hg
section
variable {B:Nat→Prop} {w0:World} {γ0:Gm} {nt:Nat} {Q:Exit→Act→World→Prop} {g:Cfg} {q:QCfg} {F:Nat→Prop} {w:World} {a:Option Addr} {n sz:Nat} {xs:List Value}
theorem gJ (t:Nat) {α:Type} (l:List α) (x:α) (hl:l.length+1≤9223372036854775807) (hg:Sy.Good Tryz.prog B w0 γ0 nt Q (setT g t (norm (.int .i64 ((l++[x]).length:Int)))))
  (h:g.s.T.get t=some (.v (.int .i64 (wrapF .i64 ((l.length:Int)+1)))):=by kernel_rfl):Sy.Good Tryz.prog B w0 γ0 nt Q g:=
 good_set t (.int .i64 ((l++[x]).length:Int)) h (by rw [wr64 (n:=(l.length:Int)+1) (by omega) (by omega)];congr 1;simp) hg
theorem kx (a b:Int) (e:a<b) (hg:Sy.Good Tryz.prog B w0 γ0 nt Q (takeC true g)) (h:condOf Tryz.prog g=some (.v (.bool (intLt a b))):=by kernel_rfl):Sy.Good Tryz.prog B w0 γ0 nt Q g:=good_take true h (lt_t e) hg
theorem ky (a b:Int) (e:¬ a<b) (hg:Sy.Good Tryz.prog B w0 γ0 nt Q (takeC false g)) (h:condOf Tryz.prog g=some (.v (.bool (intLt a b))):=by kernel_rfl):Sy.Good Tryz.prog B w0 γ0 nt Q g:=good_take false h (lt_f e) hg
theorem kz (a b:Int) (e:a=b) (hg:Sy.Good Tryz.prog B w0 γ0 nt Q (takeC true g)) (h:condOf Tryz.prog g=some (.v (.bool (intEq a b))):=by kernel_rfl):Sy.Good Tryz.prog B w0 γ0 nt Q g:=good_take true h (eq_t e) hg
theorem kw (a b:Int) (e:¬ a=b) (hg:Sy.Good Tryz.prog B w0 γ0 nt Q (takeC false g)) (h:condOf Tryz.prog g=some (.v (.bool (intEq a b))):=by kernel_rfl):Sy.Good Tryz.prog B w0 γ0 nt Q g:=good_take false h (eq_f e) hg
theorem zx (t:Nat) (a b:Int) (e:a<b) (hg:Sy.Good Tryz.prog B w0 γ0 nt Q (setT g t (norm (.bool true)))) (h:g.s.T.get t=some (.v (.bool (intLt a b))):=by kernel_rfl):Sy.Good Tryz.prog B w0 γ0 nt Q g:=good_set t (.bool true) h (by rw [lt_t e]) hg
theorem zy (t:Nat) (a b:Int) (e:¬ a<b) (hg:Sy.Good Tryz.prog B w0 γ0 nt Q (setT g t (norm (.bool false)))) (h:g.s.T.get t=some (.v (.bool (intLt a b))):=by kernel_rfl):Sy.Good Tryz.prog B w0 γ0 nt Q g:=good_set t (.bool false) h (by rw [lt_f e]) hg
theorem gI (t e:TypeId) (cap i:Nat) (h:SlAt F w a n sz xs) (hin:i<n) (hg:Sy.Good Tryz.prog B w0 γ0 nt Q (nx0 g (norm (.pointer (some ⟨gB a,oB a+i*sz,none⟩)))))
  (hh:hdSem Tryz.prog nt g=some (Instr.indexAt t (.slice a n cap) (.int .i64 (i:Int))):=by kernel_rfl) (hu:Sy.elemOf Tryz.prog t=some e:=by kernel_rfl) (hi:szB Tryz.prog e=some sz:=by kernel_rfl):Sy.Good Tryz.prog B w0 γ0 nt Q g:=
 good_val _ hh (fun W _=>idx_sl (e:=e) h hu hi hin W) hg
theorem qI (t e:TypeId) (cap i:Nat) (h:SlAt F w a n sz xs) (hin:i<n) (hg:Sy.GoodQ Tryz.prog B w0 γ0 nt Q (qNx q (norm (.pointer (some ⟨gB a,oB a+i*sz,none⟩)))))
  (hh:qSem Tryz.prog nt q=some (Instr.indexAt t (.slice a n cap) (.int .i64 (i:Int))):=by kernel_rfl) (hu:Sy.elemOf Tryz.prog t=some e:=by kernel_rfl) (hi:szB Tryz.prog e=some sz:=by kernel_rfl):Sy.GoodQ Tryz.prog B w0 γ0 nt Q q:=
 q_val _ hh (fun W _=>idx_sl (e:=e) h hu hi hin W) hg
theorem gL (t:TypeId) (v:Value) (i o:Nat) (h:SlAt B w0 a n sz xs) (hv:xs[i*sz+o]?=some v) (hg:Sy.Good Tryz.prog B w0 γ0 nt Q (nx0 g (norm v)))
  (hh:hdSem Tryz.prog nt g=some (Instr.loadAt t (.pointer (some ⟨gB a,oB a+i*sz+o,none⟩))):=by kernel_rfl) (hb:aggB Tryz.prog t=some false:=by kernel_rfl):Sy.Good Tryz.prog B w0 γ0 nt Q g:=
 good_val _ hh (fun W hk=>load_sl h hb i o hv hk) hg
theorem qL (t:TypeId) (v:Value) (i o:Nat) (h:SlAt B w0 a n sz xs) (hv:xs[i*sz+o]?=some v) (hg:Sy.GoodQ Tryz.prog B w0 γ0 nt Q (qNx q (norm v)))
  (hh:qSem Tryz.prog nt q=some (Instr.loadAt t (.pointer (some ⟨gB a,oB a+i*sz+o,none⟩))):=by kernel_rfl) (hb:aggB Tryz.prog t=some false:=by kernel_rfl):Sy.GoodQ Tryz.prog B w0 γ0 nt Q q:=
 q_val _ hh (fun W hk=>load_sl h hb i o hv hk) hg
theorem gD (t:TypeId) (m:Nat) (cs:List Value) (i o:Nat) (h:SlAt B w0 a n sz xs) (hm:cs.length=m) (hc:∀ j v,cs[j]?=some v→xs[i*sz+o+j]?=some v) (hg:Sy.Good Tryz.prog B w0 γ0 nt Q (nx0 g (norm (.agg cs.toArray))))
  (hh:hdSem Tryz.prog nt g=some (Instr.loadAt t (.pointer (some ⟨gB a,oB a+i*sz+o,none⟩))):=by kernel_rfl) (hb:aggB Tryz.prog t=some true:=by kernel_rfl) (hs:szB Tryz.prog t=some m:=by kernel_rfl):Sy.Good Tryz.prog B w0 γ0 nt Q g:=
 good_val _ hh (fun W hk=>load_slA h hb hs i o hm hc hk) hg
theorem qD (t:TypeId) (m:Nat) (cs:List Value) (i o:Nat) (h:SlAt B w0 a n sz xs) (hm:cs.length=m) (hc:∀ j v,cs[j]?=some v→xs[i*sz+o+j]?=some v) (hg:Sy.GoodQ Tryz.prog B w0 γ0 nt Q (qNx q (norm (.agg cs.toArray))))
  (hh:qSem Tryz.prog nt q=some (Instr.loadAt t (.pointer (some ⟨gB a,oB a+i*sz+o,none⟩))):=by kernel_rfl) (hb:aggB Tryz.prog t=some true:=by kernel_rfl) (hs:szB Tryz.prog t=some m:=by kernel_rfl):Sy.GoodQ Tryz.prog B w0 γ0 nt Q q:=
 q_val _ hh (fun W hk=>load_slA h hb hs i o hm hc hk) hg
end
end Go.Proofs.YtinjiigdijbjeaaGreatDoor
end
namespace Go.Proofs.YtinjiigdijbjeaaGreatDoor
open Go.RowKit Go.As
section
noncomputable def gz:Nat:=Tryz.prog.globals.size
inductive Ex where
 | mk (op ty bits:Int) (name:List UInt8) (kids:List Ex)
def Ex.kids:Ex→List Ex
 | .mk _ _ _ _ k=>k
mutual
def wgt:Ex→Nat
 | .mk _ _ _ _ k=>wgts k+1
def wgts:List Ex→Nat
 | []=>0
 | e::l=>wgt e+wgts l
end
theorem wgts_app:∀ (l r:List Ex),wgts (l++r)=wgts l+wgts r
 | [],r=>by simp [wgts]
 | e::l,r=>by
   rw [List.cons_append]
   simp only [wgts]
   rw [wgts_app l r]
   omega
theorem wgt_pos (e:Ex):0<wgt e:=by cases e;simp only [wgt];omega
theorem wgts_len:∀ (l:List Ex),l.length≤wgts l
 | []=>Nat.zero_le _
 | e::l=>by
   have:=wgts_len l
   have:=wgt_pos e
   simp only [wgts,List.length_cons]
   omega
mutual
def ExAt (F:Nat→Prop) (w:World):Ex→List Value→Prop
 | .mk op ty bits name kids,cs=>∃ a cap xs,cs=[.int .u8 op,.int .u8 ty,.int .u64 bits,.string (str name),.slice a kids.length cap]∧Sy.SlAt F w a kids.length 5 xs∧ExsAt F w kids xs
def ExsAt (F:Nat→Prop) (w:World):List Ex→List Value→Prop
 | [],xs=>xs=[]
 | e::l,xs=>∃ c r,xs=c++r∧ExAt F w e c∧ExsAt F w l r
end
theorem ExAt.len {F:Nat→Prop} {w:World} {e:Ex} {cs:List Value} (h:ExAt F w e cs):cs.length=5:=by
 cases e
 simp only [ExAt] at h
 obtain ⟨a,cap,xs,rfl,_⟩:=h
 rfl
mutual
theorem ExAt.keep {F F':Nat→Prop} {w w':World} (hk:Sy.Keep F w w') (hF:∀ k,F k→F' k):∀ {e:Ex} {cs:List Value},ExAt F w e cs→ExAt F' w' e cs
 | .mk op ty bits name kids,cs,h=>by
   simp only [ExAt] at h ⊢
   obtain ⟨a,cap,xs,h1,h2,h3⟩:=h
   exact ⟨a,cap,xs,h1,(h2.keep hk).mono hF,ExsAt.keep hk hF h3⟩
theorem ExsAt.keep {F F':Nat→Prop} {w w':World} (hk:Sy.Keep F w w') (hF:∀ k,F k→F' k):∀ {l:List Ex} {xs:List Value},ExsAt F w l xs→ExsAt F' w' l xs
 | [],xs,h=>by simp only [ExsAt] at h ⊢;exact h
 | e::l,xs,h=>by
   simp only [ExsAt] at h ⊢
   obtain ⟨c,r,h1,h2,h3⟩:=h
   exact ⟨c,r,h1,ExAt.keep hk hF h2,ExsAt.keep hk hF h3⟩
end
theorem ExsAt.at_ {F:Nat→Prop} {w:World}:∀ {l1:List Ex} {e:Ex} {l3:List Ex} {xs:List Value},ExsAt F w (l1++e::l3) xs→∃ c,ExAt F w e c∧∀ j v,c[j]?=some v→xs[l1.length*5+j]?=some v
 | [],e,l3,xs,h=>by
   simp only [List.nil_append,ExsAt] at h
   obtain ⟨c,r,rfl,h2,_⟩:=h
   refine ⟨c,h2,fun j v hv=>?_⟩
   rw [List.length_nil,Nat.zero_mul,Nat.zero_add,List.getElem?_append_left (List.getElem?_eq_some_iff.1 hv).1]
   exact hv
 | x::l1,e,l3,xs,h=>by
   simp only [List.cons_append,ExsAt] at h
   obtain ⟨c,r,rfl,h2,h3⟩:=h
   obtain ⟨c',h4,h5⟩:=ExsAt.at_ h3
   refine ⟨c',h4,fun j v hv=>?_⟩
   have hl:=h2.len
   rw [List.length_cons,List.getElem?_append_right (by omega),show (l1.length+1)*5+j - c.length=l1.length*5+j by omega]
   exact h5 j v hv
open Go.Sy in
set_option maxRecDepth 100000 in
theorem weight_any:∀ (N:Nat) (e:Ex) (cs:List Value) (w:World),wgt e≤N→wgt e≤1099511627776→ExAt (·<w.heap.size) w e cs→
  CB 4 #[.agg cs.toArray] w (nI (wgt e:Nat)):=by
 intro N
 induction N with
 | zero=>intro e cs w h;have:=wgt_pos e;omega
 | succ N ihN=>
   intro e cs w hN hbd hat
   obtain ⟨op,ty,bits,name,kids⟩:=e
   simp only [ExAt] at hat
   obtain ⟨a,cap,xs,rfl,hsl,hks⟩:=hat
   simp only [wgt] at hN hbd
   obtain ⟨n,hn⟩:∃ n,n=kids.length:=⟨_,rfl⟩
   have hnl:=wgts_len kids
   rw [← hn] at hsl hnl ⊢
   refine eN [xV op ty bits name a n cap] Tryz.func4 (fun γ0 hγ0=>?_)
   refine rk ?_
   refine good_toLp ?_
   refine good_loopI (fun i:List Ex×List Ex=>i.2.length) (fun i=>kids=i.1++i.2) (fun i=>⟨mkT [(1,.ptr gz 0),(3,vI ((wgts i.1+1:Nat):Int)),(4,vI (i.1.length:Int))],mkH [(gz,bK 29 5 (xA op ty bits name a n cap))],gz+1,[]⟩)
    ([],kids) rfl (by kernel_rfl)
    (fun h=>gU _ [(1,.ptr gz 0),(3,vI ((wgts []+1:Nat):Int)),(4,vI (([]:List Ex).length:Int))] [(gz,bK 29 5 (xA op ty bits name a n cap))] (gz+1) (fun b hb=>hγ0 b (Nat.le_trans (Nat.le_succ _) hb)) h) ?_
   rintro ⟨l1,l2⟩ hI ih
   have hI:kids=l1++l2:=hI
   have hn2:n=l1.length+l2.length:=by rw [hn,hI,List.length_append]
   have hw1:wgts kids=wgts l1+wgts l2:=by rw [hI,wgts_app]
   refine rk ?_
   cases l2 with
   | nil=>
     have hn3:n=l1.length:=by rw [hn2];simp
     refine ky (l1.length:Int) (n:Int) (by omega) ?_
     refine rk ?_
     refine gR (nI ((wgts l1+1:Nat):Int)) (fun W hk=>⟨?_,hk.below⟩)
     simp only [wgt]
     rw [hw1]
     simp [wgts]
   | cons e l3=>
     have hin:l1.length<n:=by rw [hn2,List.length_cons];omega
     have hks2:=hks
     rw [hI] at hks2
     obtain ⟨c,hc,hcell⟩:=hks2.at_
     have hcl:=hc.len
     simp only [wgts] at hw1
     have hwe:=wgt_pos e
     refine kx (l1.length:Int) (n:Int) (by omega) ?_
     refine rk ?_
     refine gI 27 29 cap l1.length hsl hin ?_
     refine rk ?_
     have hld:=fun W hk=>load_slA (P:=Tryz.prog) (ty:=29) (m:=5) (cs:=c) hsl (by kernel_rfl) (by kernel_rfl) l1.length 0 hcl hcell (W:=W) hk
     have hcall:=fun W hk=>ihN e c W (by omega) (by omega) (hc.keep hk (kU hk))
     obtain ⟨op2,ty2,bits2,name2,kids2⟩:=e
     simp only [ExAt] at hc
     obtain ⟨a2,cap2,xs2,rfl,_⟩:=hc
     refine gV (xV op2 ty2 bits2 name2 a2 kids2.length cap2) (S:=Instr.loadAt 29 (.pointer (some ⟨gB a,oB a+l1.length*5+0,none⟩))) (fun W hk=>hld W hk) ?_
     refine gX [xV op2 ty2 bits2 name2 a2 kids2.length cap2] (nI (wgt (.mk op2 ty2 bits2 name2 kids2):Nat)) (fun W hk=>hcall W hk) ?_
     refine rk ?_
     have hs1:wgts (l1++[Ex.mk op2 ty2 bits2 name2 kids2])=wgts l1+wgt (.mk op2 ty2 bits2 name2 kids2):=by rw [wgts_app];simp [wgts]
     refine gS 3 (x:=nI (wrapF .i64 (((wgts l1+1:Nat):Int)+((wgt (.mk op2 ty2 bits2 name2 kids2):Nat):Int)))) (nI ((wgts (l1++[Ex.mk op2 ty2 bits2 name2 kids2])+1:Nat):Int)) (by rw [wr64 (by omega) (by omega)];congr 1;omega) ?_
     refine gS 4 (x:=nI (wrapF .i64 ((l1.length:Int)+1))) (nI ((l1++[Ex.mk op2 ty2 bits2 name2 kids2]).length:Nat)) (by rw [wr64 (by omega) (by omega)];congr 1;simp) ?_
     exact gU _ [(1,.ptr gz 0),(3,vI ((wgts (l1++[Ex.mk op2 ty2 bits2 name2 kids2])+1:Nat):Int)),(4,vI ((l1++[Ex.mk op2 ty2 bits2 name2 kids2]).length:Nat))] [(gz,bK 29 5 (xA op ty bits name a n cap))] (gz+1) (fun b hb=>hγ0 b (Nat.le_trans (Nat.le_succ _) hb))
      (ih (l1++[Ex.mk op2 ty2 bits2 name2 kids2],l3) (by show kids=(l1++[_])++l3;rw [hI];simp) lS1)
end
section
def NewIn (w w':World) (k:Nat):Prop:=w.heap.size≤k∧k<w'.heap.size
def CopyPr (e:Ex) (w:World) (r:Value) (w':World):Prop:=∃ ds:List Value,r = .agg ds.toArray∧ExAt (NewIn w w') w' e ds
theorem ExsAt.snoc {F:Nat→Prop} {w:World} {e:Ex} {c:List Value}:∀ {l:List Ex} {xs:List Value},ExsAt F w l xs→ExAt F w e c→ExsAt F w (l++[e]) (xs++c)
 | [],xs,h,hc=>by
   simp only [ExsAt] at h
   subst h
   simp only [List.nil_append,ExsAt]
   exact ⟨c,[],by simp,hc,rfl⟩
 | x::l,xs,h,hc=>by
   simp only [ExsAt] at h
   obtain ⟨c1,r,rfl,h2,h3⟩:=h
   simp only [List.cons_append,ExsAt]
   exact ⟨c1,r++c,by simp,h2,ExsAt.snoc h3 hc⟩
theorem VR_agg5 {γ:Sy.Gm} {a b c d:Value} {e:Sy.AV} {v:Value} (h:Sy.VR γ (.agg [.v a,.v b,.v c,.v d,e]) v):∃ x,v = .agg #[a,b,c,d,x]∧Sy.VR γ e x:=by
 cases h with
 | agg hl hh=>
   rename_i vs
   obtain ⟨l⟩:=vs
   match l,hl with
   | [x1,x2,x3,x4,x5],_=>
     have h1:=hh 0 _ x1 rfl rfl
     have h2:=hh 1 _ x2 rfl rfl
     have h3:=hh 2 _ x3 rfl rfl
     have h4:=hh 3 _ x4 rfl rfl
     cases h1;cases h2;cases h3;cases h4
     exact ⟨x5,rfl,hh 4 _ x5 rfl rfl⟩
structure CpI where
 l1:List Ex
 l2:List Ex
 xs:List Value
 X:Sy.AV
 ob:Option Sy.Blk
def CpInv (w:World) (kids:List Ex) (b:Nat) (i:CpI) (B:Nat→Prop) (w1:World):Prop:=
 kids=i.l1++i.l2∧Sy.Keep (·<w.heap.size) w w1∧(∀ k,k<w.heap.size→B k)∧(∀ k,B k→k<w1.heap.size)∧ExsAt (fun k=>B k∧w.heap.size≤k) w1 i.l1 i.xs∧Sy.RowAt 29 5 b i.l1.length i.xs i.X i.ob
open Go.Sy in
set_option maxRecDepth 100000 in
theorem copyExpr_any:∀ (N:Nat) (e:Ex) (cs:List Value) (w:World),wgt e≤N→wgt e≤1099511627776→ExAt (·<w.heap.size) w e cs→
  Calls Tryz.prog 5 #[.agg cs.toArray] w fun r w'=>∃ v,r = .returned v∧CopyPr e w v w'∧Below w.heap.size w w':=by
 intro N
 induction N with
 | zero=>intro e cs w h;have:=wgt_pos e;omega
 | succ N ihN=>
   intro e cs w hN hbd hat
   obtain ⟨op,ty,bits,name,kids⟩:=e
   simp only [ExAt] at hat
   obtain ⟨a,cap,xs,rfl,hsl,hks⟩:=hat
   simp only [wgt] at hN hbd
   obtain ⟨n,hn⟩:∃ n,n=kids.length:=⟨_,rfl⟩
   have hnl:=wgts_len kids
   rw [← hn] at hsl hnl ⊢
   refine eN [xV op ty bits name a n cap] Tryz.func5 (fun γ0 hγ0=>?_)
   refine rk ?_
   refine good_toLp ?_
   refine good_loopB (fun i:CpI=>i.l2.length) (CpInv w kids (gz+3)) (fun i=>⟨mkT [(1,.ptr gz 0),(2,.ptr (gz+1) 0),(3,.ptr (gz+2) 0),(4,vI (i.l1.length:Int))],mkH [(gz,bK 29 5 (xA op ty bits name a n cap)),(gz+1,bK 29 5 (xA 0 0 0 [] none 0 0)),(gz+2,bK 29 5 [v8 op,v8 ty,v6 bits,vT name,i.X]),(gz+3,i.ob)],gz+4,[]⟩)
    ⟨[],kids,[],vL none 0 0,none⟩ ⟨rfl,Keep.refl _ _,fun k h=>h,fun k h=>h,rfl,RowAt.nil _ _ _⟩ (by kernel_rfl)
    (fun h=>gU _ [(1,.ptr gz 0),(2,.ptr (gz+1) 0),(3,.ptr (gz+2) 0),(4,vI (([]:List Ex).length:Int))] [(gz,bK 29 5 (xA op ty bits name a n cap)),(gz+1,bK 29 5 (xA 0 0 0 [] none 0 0)),(gz+2,bK 29 5 (xA op ty bits name none 0 0)),(gz+3,none)] (gz+4) (fun b hb=>hγ0 b (Nat.le_trans (Nat.le_add_right _ 4) hb)) h) ?_
   rintro ⟨l1,l2,xk,X,ob⟩ B1 w1 ⟨hI,hk1,hB0,hB1,hxk,hrow⟩ ih
   simp only at hI hxk hrow
   have hn2:n=l1.length+l2.length:=by rw [hn,hI,List.length_append]
   have hw1:wgts kids=wgts l1+wgts l2:=by rw [hI,wgts_app]
   have hsl1:SlAt B1 w1 a n 5 xs:=(hsl.keep hk1).mono hB0
   refine rk ?_
   cases l2 with
   | nil=>
     have hn3:n=l1.length:=by rw [hn2];simp
     refine ky (l1.length:Int) (n:Int) (by omega) ?_
     have hfin:∀ (γ:Gm) (W:World) (v x:Value) (h:Hp) (cc:Nat),v = .agg #[n8 op,n8 ty,n6 bits,nT name,x]→VR γ X x→HR B1 Tryz.prog.globals.size γ h cc W→h.get (gz+3)=ob→Keep B1 w1 W→(∃ v',Ending.returned v = .returned v'∧CopyPr (.mk op ty bits name kids) w v' W∧Below w.heap.size w W):=by
      intro γ W v x h cc hv hx hH hb hkW
      subst hv
      obtain ⟨hown,_⟩:=row_own (base:=w.heap.size) hrow hb hH hx (fun k hk=>Nat.le_of_not_lt (fun h=>hk (hB0 k h)))
      obtain ⟨a',cap',rfl,_,hsl'⟩:=SlAt.of_own (F:=NewIn w W) hown (fun k h1 h2=>⟨h1,h2⟩)
      refine ⟨_,rfl,⟨_,rfl,?_⟩,(hk1.trans (hkW.mono hB0)).below⟩
      simp only [ExAt]
      have hkl:l1=kids:=by rw [hI];simp
      rw [← hn3,hn] at hsl' ⊢
      refine ⟨a',cap',xk,rfl,hsl',?_⟩
      rw [hkl] at hxk
      exact hxk.keep (hkW.mono fun k hk=>hk.1) (fun k hk=>⟨hk.2,Nat.lt_of_lt_of_le (hB1 k hk.1) hkW.size⟩)
     rcases hrow.2 with ⟨hX,hob,h0⟩ | ⟨hX,hob⟩
     · subst hX hob
       refine rk ?_
       refine good_end (av := .agg (xA op ty bits name none 0 0)) (by kernel_rfl) (fun γ W v _ hv hH hkW=>?_)
       obtain ⟨x,rfl,hx⟩:=VR_agg5 hv
       exact hfin γ W _ x _ _ rfl hx hH (by kernel_rfl) hkW
     · subst hX hob
       refine rk ?_
       refine good_end (av := .agg [v8 op,v8 ty,v6 bits,vT name,.slg (gz+3) 0 l1.length 5]) (by kernel_rfl) (fun γ W v _ hv hH hkW=>?_)
       obtain ⟨x,rfl,hx⟩:=VR_agg5 hv
       exact hfin γ W _ x _ _ rfl hx hH (by kernel_rfl) hkW
   | cons e l3=>
     have hin:l1.length<n:=by rw [hn2,List.length_cons];omega
     have hks2:=hks
     rw [hI] at hks2
     obtain ⟨c,hc,hcell⟩:=hks2.at_
     have hcl:=hc.len
     simp only [wgts] at hw1
     have hwe:=wgt_pos e
     have hc1:ExAt B1 w1 e c:=hc.keep hk1 hB0
     refine kx (l1.length:Int) (n:Int) (by omega) ?_
     refine rk ?_
     have hXlt:avLt (gz+4) X=true:=hrow.lt (by omega)
     refine good_lock [gz,gz+2] (gz+3) (by kernel_rfl) (fun b hb=>hγ0 b (Nat.le_trans (Nat.le_add_right _ 3) hb)) ?_
     intro γ1 B2 w2 hle1 hγ1 hB12 hB2 hk12 hLk
     refine good_plan sy_mixed (.take 0 (.take 1 (.take 2 (.take 3 (.take 4 (.take 5 (.take 6 (.run 7 (.run 8 (.run 9 (.take 10 .done))))))))))) 11 (by kernel_rfl) ?_
     have hL2:∀ b,hasNat b [gz,gz+2]=true→∃ p,γ1 b=some p∧B2 p.1:=fun b hb=>let ⟨p,h1,h2,_⟩:=hLk b hb;⟨p,h1,h2⟩
     refine p_takes [gz,gz+2] 1 (Bs:=B2) (ws:=w2) (by kernel_rfl) (fun _ h=>h) hL2 ?_
     refine p_load [gz,gz+2] X (by kernel_rfl) (by rcases hrow.2 with ⟨h,_⟩ | ⟨h,_⟩ <;> rw [h] <;> kernel_rfl) (Bs:=B2) (ws:=w2) (by kernel_rfl) (fun _ h=>h) hL2 ?_
     refine p_takes [gz,gz+2] 3 (Bs:=B2) (ws:=w2) (by kernel_rfl) (fun _ h=>h) hL2 ?_
     have hsl2:SlAt B2 w2 a n 5 xs:=(hsl1.keep hk12).mono hB12
     refine p_val (.pointer (some ⟨gB a,oB a+l1.length*5,none⟩)) (S:=Instr.indexAt 27 (.slice a n cap) (nI (l1.length:Int))) (by kernel_rfl) (Bs:=B2) (ws:=w2) (by kernel_rfl) (fun _ h=>h) (fun W _=>idx_sl (e:=29) hsl2 (by kernel_rfl) (by kernel_rfl) hin W) ?_
     have hld:=fun W hk=>load_slA (P:=Tryz.prog) (ty:=29) (m:=5) (cs:=c) hsl2 (by kernel_rfl) (by kernel_rfl) l1.length 0 hcl hcell (W:=W) hk
     have hcall:=fun (W:World) (hk:Keep B2 w2 W)=>ihN e c W (by omega) (by omega) ((hc1.keep hk12 hB12).keep hk (fun k h=>Nat.lt_of_lt_of_le (hB2 k h) hk.size))
     obtain ⟨op2,ty2,bits2,name2,kids2⟩:=e
     simp only [ExAt] at hc
     obtain ⟨a2,cap2,xs2,rfl,_⟩:=hc
     refine p_val (xV op2 ty2 bits2 name2 a2 kids2.length cap2) (S:=Instr.loadAt 29 (.pointer (some ⟨gB a,oB a+l1.length*5+0,none⟩))) (by kernel_rfl) (Bs:=B2) (ws:=w2) (by kernel_rfl) (fun _ h=>h) (fun W hk=>hld W hk) ?_
     refine pR (Keep B2 w2) (fun _ h=>h) ?_
     refine gM [xV op2 ty2 bits2 name2 a2 kids2.length cap2] (fun W hk=>hcall W hk) ?_
     intro wa r w3 B3 hka hpr hba hk23 hB23 hB3 hB3s
     obtain ⟨ds,rfl,hds⟩:=hpr
     have hds0:=hds
     simp only [ExAt] at hds0
     obtain ⟨a3,cap3,xs3,rfl,_⟩:=hds0
     have hS3:∀ W,Keep B3 w3 W→Keep B2 w2 W:=fun W hk=>hk23.trans (hk.mono hB23)
     refine rk ?_
     refine pR (Keep B2 w2) hS3 ?_
     refine rk ?_
     refine pR (Keep B2 w2) hS3 ?_
     refine good_plain (gz+2) 4 (by kernel_rfl) (fun xold=>?_)
     refine good_app (t:=27) (e:=29) (.slg (gz+4) 0 1 5) 5 64 (gz+3) l1.length 0 xk X ob (xL op2 ty2 bits2 name2 a3 kids2.length cap3) [15] (by kernel_rfl) (by kernel_rfl) (by kernel_rfl) (by kernel_rfl) hrow (by kernel_rfl) (by kernel_rfl) (by kernel_rfl)
      (by unfold maxLen;omega) (by omega) (hγ1 (gz+3) (Nat.le_refl _)) (by kernel_rfl) (by kernel_rfl) (by kernel_rfl) (by kernel_rfl) (by kernel_rfl) (fun X' ob' hrow'=>?_)
     rcases hrow'.2 with ⟨_,_,h0⟩ | ⟨rfl,rfl⟩
     · omega
     refine rk ?_
     refine p_takes [gz,gz+2] 1 (Bs:=B2) (ws:=w2) (by kernel_rfl) hS3 hL2 ?_
     refine p_done (by kernel_rfl) ?_ (Keep B2 w2) (by kernel_rfl) hS3
     refine good_unlock [gz,gz+2] (by kernel_rfl) (fun b hb=>let ⟨p,h1,_⟩:=hLk b hb;⟨p,h1⟩) ?_
     intro B4 hB43 hB34
     refine rk ?_
     refine gS 4 (x:=nI (wrapF .i64 ((l1.length:Int)+1))) (nI ((l1++[(Ex.mk op2 ty2 bits2 name2 kids2)]).length:Nat)) (by rw [wr64 (by omega) (by omega)];congr 1;simp) ?_
     have hlk:∀ b p,hasNat b [gz,gz+2]=true→γ1 b=some p→B2 p.1∧¬ B1 p.1:=fun b p hb hp=>by
      obtain ⟨q,h1,h2,h3⟩:=hLk b hb
      rw [hp] at h1
      injection h1 with h1
      subst h1
      exact ⟨h2,h3⟩
     have hB14:∀ k,B1 k→B4 k:=fun k hk=>hB34 k (hB23 k (hB12 k hk)) (fun b p hb hp e=>(hlk b p hb hp).2 (e ▸ hk))
     have hk13:Keep B1 w1 w3:=hk12.trans (hk23.mono hB12)
     have hk14:Keep (·<w.heap.size) w w3:=hk1.trans (hk13.mono hB0)
     have hsz:w.heap.size≤wa.heap.size:=Nat.le_trans hk1.size (Nat.le_trans hk12.size hka.size)
     have hnew:∀ k,NewIn wa w3 k→B4 k∧w.heap.size≤k:=fun k hk=>⟨hB34 k (hB3 k hk.1 hk.2) (fun b p hb hp e=>by
      have h1:=hB2 p.1 (hlk b p hb hp).1
      have h2:=hk.1
      have h3:=hka.size
      omega),Nat.le_trans hsz hk.1⟩
     have hI4:CpInv w kids (gz+3) ⟨l1++[(Ex.mk op2 ty2 bits2 name2 kids2)],l3,xk++(xL op2 ty2 bits2 name2 a3 kids2.length cap3),.slg (gz+3) 0 (l1.length+(0+1)) 5,some (.row 29 (xk++(xL op2 ty2 bits2 name2 a3 kids2.length cap3)))⟩ B4 w3:=by
      refine ⟨by show kids=(l1++[_])++l3;rw [hI];simp,hk14,fun k hk=>hB14 k (hB0 k hk),fun k hk=>hB3s k (hB43 k hk),?_,?_⟩
      · exact (hxk.keep (hk13.mono fun k hk=>hk.1) (fun k hk=>⟨hB14 k hk.1,hk.2⟩)).snoc (hds.keep (Keep.refl _ _) hnew)
      · show RowAt _ 5 (gz+3) (l1++[_]).length _ _ _
        rw [List.length_append]
        exact hrow'
     exact gU _ [(1,.ptr gz 0),(2,.ptr (gz+1) 0),(3,.ptr (gz+2) 0),(4,vI ((l1++[(Ex.mk op2 ty2 bits2 name2 kids2)]).length:Int))] [(gz,bK 29 5 (xA op ty bits name a n cap)),(gz+1,bK 29 5 (xA 0 0 0 [] none 0 0)),(gz+2,bK 29 5 [v8 op,v8 ty,v6 bits,vT name,.slg (gz+3) 0 (l1.length+(0+1)) 5]),(gz+3,some (.row 29 (xk++(xL op2 ty2 bits2 name2 a3 kids2.length cap3))))] (gz+4) (fun b hb=>hγ1 b (Nat.le_trans (Nat.le_succ _) hb))
      ((ih _ B4 w3 hI4 lS1).up hle1)
end
section
set_option maxRecDepth 100000
mutual
def hgt:Ex→Nat
 | .mk _ _ _ _ k=>hgts k+1
def hgts:List Ex→Nat
 | []=>0
 | e::l=>max (hgt e) (hgts l)
end
theorem hgts_app:∀ (l r:List Ex),hgts (l++r)=max (hgts l) (hgts r)
 | [],r=>by simp [hgts]
 | e::l,r=>by
   rw [List.cons_append]
   simp only [hgts]
   rw [hgts_app l r,Nat.max_assoc]
theorem hgts_snoc (l:List Ex) (e:Ex):hgts (l++[e])=max (hgts l) (hgt e):=by rw [hgts_app];simp [hgts]
mutual
theorem hgt_le:∀ (e:Ex),hgt e≤wgt e
 | .mk _ _ _ _ k=>by simp only [hgt,wgt];have:=hgts_le k;omega
theorem hgts_le:∀ (l:List Ex),hgts l≤wgts l
 | []=>Nat.le_refl _
 | e::l=>by simp only [hgts,wgts];have:=hgts_le l;have:=hgt_le e;omega
end
open Go.Sy
theorem theight_any:∀ (N:Nat) (e:Ex) (cs:List Value) (w:World),wgt e≤N→wgt e≤1099511627776→ExAt (·<w.heap.size) w e cs→
  CB 280 #[.agg cs.toArray] w (nI (hgt e:Nat)):=by
 intro N
 induction N with
 | zero=>intro e cs w h;have:=wgt_pos e;omega
 | succ N ihN=>
   intro e cs w hN hbd hat
   obtain ⟨op,ty,bits,name,kids⟩:=e
   simp only [ExAt] at hat
   obtain ⟨a,cap,xs,rfl,hsl,hks⟩:=hat
   have hhw:=hgt_le (.mk op ty bits name kids)
   simp only [wgt] at hN hbd
   obtain ⟨n,hn⟩:∃ n,n=kids.length:=⟨_,rfl⟩
   have hnl:=wgts_len kids
   rw [← hn] at hsl hnl ⊢
   refine eN [xV op ty bits name a n cap] Tryz.func280 (fun γ0 hγ0=>?_)
   refine rk ?_
   refine good_toLp ?_
   refine good_loopI (fun i:List Ex×List Ex=>i.2.length) (fun i=>kids=i.1++i.2) (fun i=>⟨mkT [(3,vI ((hgts i.1:Nat):Int)),(7,vL a n cap),(8,vI (n:Int)),(9,vI (i.1.length:Int))],mkH [(gz,bK 29 5 (xA op ty bits name a n cap))],gz+1,[]⟩)
    ([],kids) rfl (by kernel_rfl)
    (fun h=>gU _ [(3,vI ((hgts ([]:List Ex):Nat):Int)),(7,vL a n cap),(8,vI (n:Int)),(9,vI (([]:List Ex).length:Int))] [(gz,bK 29 5 (xA op ty bits name a n cap))] (gz+1) (fun b hb=>hγ0 b (Nat.le_trans (Nat.le_succ _) hb)) h) ?_
   rintro ⟨l1,l2⟩ hI ih
   have hI:kids=l1++l2:=hI
   have hn2:n=l1.length+l2.length:=by rw [hn,hI,List.length_append]
   have hw1:wgts kids=wgts l1+wgts l2:=by rw [hI,wgts_app]
   have hh1:=hgts_le l1
   refine rk ?_
   cases l2 with
   | nil=>
     have hn3:n=l1.length:=by rw [hn2];simp
     refine ky (l1.length:Int) (n:Int) (by omega) ?_
     refine rk ?_
     refine gR (nI (wrapF .i64 ((hgts l1:Nat)+1))) (fun W hk=>⟨?_,hk.below⟩)
     rw [wr64 (by omega) (by omega)]
     simp only [hgt]
     have hkl:l1=kids:=by rw [hI];simp
     rw [hkl]
     rfl
   | cons e l3=>
     have hin:l1.length<n:=by rw [hn2,List.length_cons];omega
     have hks2:=hks
     rw [hI] at hks2
     obtain ⟨c,hc,hcell⟩:=hks2.at_
     have hcl:=hc.len
     simp only [wgts] at hw1
     have hwe:=wgt_pos e
     have hhe:=hgt_le e
     refine kx (l1.length:Int) (n:Int) (by omega) ?_
     refine rk ?_
     refine gI 27 29 cap l1.length hsl hin ?_
     refine rk ?_
     have hld:=fun W hk=>load_slA (P:=Tryz.prog) (ty:=29) (m:=5) (cs:=c) hsl (by kernel_rfl) (by kernel_rfl) l1.length 0 hcl hcell (W:=W) hk
     have hcall:=fun W hk=>ihN e c W (by omega) (by omega) (hc.keep hk (kU hk))
     obtain ⟨op2,ty2,bits2,name2,kids2⟩:=e
     simp only [ExAt] at hc
     obtain ⟨a2,cap2,xs2,rfl,_⟩:=hc
     refine gV (xV op2 ty2 bits2 name2 a2 kids2.length cap2) (S:=Instr.loadAt 29 (.pointer (some ⟨gB a,oB a+l1.length*5+0,none⟩))) (fun W hk=>hld W hk) ?_
     refine rk ?_
     refine gX [xV op2 ty2 bits2 name2 a2 kids2.length cap2] (nI (hgt (Ex.mk op2 ty2 bits2 name2 kids2):Nat)) (fun W hk=>hcall W hk) ?_
     refine rk ?_
     refine gS 3 (x:=nI (if ((hgt (Ex.mk op2 ty2 bits2 name2 kids2):Nat):Int) > ((hgts l1:Nat):Int) then ((hgt (Ex.mk op2 ty2 bits2 name2 kids2):Nat):Int) else ((hgts l1:Nat):Int))) (nI ((hgts (l1++[(Ex.mk op2 ty2 bits2 name2 kids2)]):Nat):Int)) (by rw [hgts_snoc];congr 1;split <;> omega) ?_
     refine gS 9 (x:=nI (wrapF .i64 ((l1.length:Int)+1))) (nI ((l1++[(Ex.mk op2 ty2 bits2 name2 kids2)]).length:Nat)) (by rw [wr64 (by omega) (by omega)];congr 1;simp) ?_
     exact gU _ [(3,vI ((hgts (l1++[(Ex.mk op2 ty2 bits2 name2 kids2)]):Nat):Int)),(7,vL a n cap),(8,vI (n:Int)),(9,vI ((l1++[(Ex.mk op2 ty2 bits2 name2 kids2)]).length:Int))] [(gz,bK 29 5 (xA op ty bits name a n cap))] (gz+1) (fun b hb=>hγ0 b (Nat.le_trans (Nat.le_succ _) hb))
      (ih (l1++[(Ex.mk op2 ty2 bits2 name2 kids2)],l3) (by show kids=(l1++[_])++l3;rw [hI];simp) lS1)
theorem kheight_any:∀ (N:Nat) (e:Ex) (cs:List Value) (w:World),wgt e≤N→wgt e≤1099511627776→ExAt (·<w.heap.size) w e cs→
  CB 42 #[.agg cs.toArray] w (nI (hgt e:Nat)):=by
 intro N
 induction N with
 | zero=>intro e cs w h;have:=wgt_pos e;omega
 | succ N ihN=>
   intro e cs w hN hbd hat
   obtain ⟨op,ty,bits,name,kids⟩:=e
   simp only [ExAt] at hat
   obtain ⟨a,cap,xs,rfl,hsl,hks⟩:=hat
   have hhw:=hgt_le (.mk op ty bits name kids)
   simp only [wgt] at hN hbd
   obtain ⟨n,hn⟩:∃ n,n=kids.length:=⟨_,rfl⟩
   have hnl:=wgts_len kids
   rw [← hn] at hsl hnl ⊢
   refine eN [xV op ty bits name a n cap] Tryz.func42 (fun γ0 hγ0=>?_)
   refine rk ?_
   refine good_toLp ?_
   refine good_loopI (fun i:List Ex×List Ex=>i.2.length) (fun i=>kids=i.1++i.2) (fun i=>⟨mkT [(1,.ptr gz 0),(3,vI ((hgts i.1:Nat):Int)),(4,vI (i.1.length:Int))],mkH [(gz,bK 29 5 (xA op ty bits name a n cap))],gz+1,[]⟩)
    ([],kids) rfl (by kernel_rfl)
    (fun h=>gU _ [(1,.ptr gz 0),(3,vI ((hgts ([]:List Ex):Nat):Int)),(4,vI (([]:List Ex).length:Int))] [(gz,bK 29 5 (xA op ty bits name a n cap))] (gz+1) (fun b hb=>hγ0 b (Nat.le_trans (Nat.le_succ _) hb)) h) ?_
   rintro ⟨l1,l2⟩ hI ih
   have hI:kids=l1++l2:=hI
   have hn2:n=l1.length+l2.length:=by rw [hn,hI,List.length_append]
   have hw1:wgts kids=wgts l1+wgts l2:=by rw [hI,wgts_app]
   have hh1:=hgts_le l1
   refine rk ?_
   cases l2 with
   | nil=>
     have hn3:n=l1.length:=by rw [hn2];simp
     refine ky (l1.length:Int) (n:Int) (by omega) ?_
     refine rk ?_
     refine gR (nI (wrapF .i64 ((hgts l1:Nat)+1))) (fun W hk=>⟨?_,hk.below⟩)
     rw [wr64 (by omega) (by omega)]
     simp only [hgt]
     have hkl:l1=kids:=by rw [hI];simp
     rw [hkl]
     rfl
   | cons e l3=>
     have hin:l1.length<n:=by rw [hn2,List.length_cons];omega
     have hks2:=hks
     rw [hI] at hks2
     obtain ⟨c,hc,hcell⟩:=hks2.at_
     have hcl:=hc.len
     simp only [wgts] at hw1
     have hwe:=wgt_pos e
     have hhe:=hgt_le e
     refine kx (l1.length:Int) (n:Int) (by omega) ?_
     refine rk ?_
     refine gI 27 29 cap l1.length hsl hin ?_
     refine rk ?_
     have hld:=fun W hk=>load_slA (P:=Tryz.prog) (ty:=29) (m:=5) (cs:=c) hsl (by kernel_rfl) (by kernel_rfl) l1.length 0 hcl hcell (W:=W) hk
     have hcall:=fun W hk=>ihN e c W (by omega) (by omega) (hc.keep hk (kU hk))
     obtain ⟨op2,ty2,bits2,name2,kids2⟩:=e
     simp only [ExAt] at hc
     obtain ⟨a2,cap2,xs2,rfl,_⟩:=hc
     refine gV (xV op2 ty2 bits2 name2 a2 kids2.length cap2) (S:=Instr.loadAt 29 (.pointer (some ⟨gB a,oB a+l1.length*5+0,none⟩))) (fun W hk=>hld W hk) ?_
     refine rk ?_
     refine gX [xV op2 ty2 bits2 name2 a2 kids2.length cap2] (nI (hgt (Ex.mk op2 ty2 bits2 name2 kids2):Nat)) (fun W hk=>hcall W hk) ?_
     refine rk ?_
     refine gS 3 (x:=nI (if ((hgt (Ex.mk op2 ty2 bits2 name2 kids2):Nat):Int) > ((hgts l1:Nat):Int) then ((hgt (Ex.mk op2 ty2 bits2 name2 kids2):Nat):Int) else ((hgts l1:Nat):Int))) (nI ((hgts (l1++[(Ex.mk op2 ty2 bits2 name2 kids2)]):Nat):Int)) (by rw [hgts_snoc];congr 1;split <;> omega) ?_
     refine gS 4 (x:=nI (wrapF .i64 ((l1.length:Int)+1))) (nI ((l1++[(Ex.mk op2 ty2 bits2 name2 kids2)]).length:Nat)) (by rw [wr64 (by omega) (by omega)];congr 1;simp) ?_
     exact gU _ [(1,.ptr gz 0),(3,vI ((hgts (l1++[(Ex.mk op2 ty2 bits2 name2 kids2)]):Nat):Int)),(4,vI ((l1++[(Ex.mk op2 ty2 bits2 name2 kids2)]).length:Int))] [(gz,bK 29 5 (xA op ty bits name a n cap))] (gz+1) (fun b hb=>hγ0 b (Nat.le_trans (Nat.le_succ _) hb))
      (ih (l1++[(Ex.mk op2 ty2 bits2 name2 kids2)],l3) (by show kids=(l1++[_])++l3;rw [hI];simp) lS1)
end
section
noncomputable def sameEx (a b:Ex):Bool:=@decide (a=b) (Classical.propDecidable _)
theorem sameEx_t {a b:Ex}:sameEx a b=true↔a=b:=by unfold sameEx;exact @decide_eq_true_iff _ (Classical.propDecidable _)
theorem sameEx_f {a b:Ex} (h:a≠b):sameEx a b=false:=by rw [← Bool.not_eq_true,sameEx_t];exact h
theorem valueGuard:Tryz.prog.eqGuardType Tryz.prog.depth 26=false:=by kernel_rfl
def vEq (a b c d:Int):Bool:=Sy.intEq a c&&Sy.intEq b d
theorem run_eqi_value (a b c d:Int) (k:Nat) (w:World):
  (Op.equalIn (k+2) 26 (.agg #[.int .u8 a,.int .u64 b]) (.agg #[.int .u8 c,.int .u64 d])).run Tryz.prog w = .ok (vEq a b c d) w:=by
 have h0:Tryz.prog.underlying 26=some (.struct (Tryz.prog.fieldsOf 26)):=by rw [Program.fieldsOf,Tryz.underlying26]
 rw [run_equalIn_agg w (k+1) _ _ _ h0 (by kernel_rfl)]
 have h1:=run_equalIn_int (P:=Tryz.prog) w k 23 .u8 .u8 a c Tryz.underlying23
 have h2:=run_equalIn_int (P:=Tryz.prog) w k 24 .u64 .u64 b d Tryz.underlying24
 rw [Program.fieldsOf,Tryz.underlying26]
 unfold vEq
 rw [Sy.intEq_eq,Sy.intEq_eq]
 go_simp
 by_cases ha:a=c <;> by_cases hb:b=d <;> simp [ha,hb]
theorem _root_.Go.Sy.eqG2 {P:Program} {w:World} {m:Sem Unit} {n:Sem Value} {r:Value} (h1:m.run P w = .ok () w) (h2:n.run P w = .ok r w):(do m;n:Sem Value).run P w = .ok r w:=by
 rw [Sem.run_bind,h1]
 exact h2
theorem run_neq_value (ox oy:Operand) (a b c d:Int) (w:World):
  (do eqGuard .neq 26 ox oy (.agg #[.int .u8 a,.int .u64 b]) (.agg #[.int .u8 c,.int .u64 d]);binOp .neq 26 (.agg #[.int .u8 a,.int .u64 b]) (.agg #[.int .u8 c,.int .u64 d]):Sem Value).run Tryz.prog w = .ok (.bool (!(vEq a b c d))) w:=by
 have h1:(eqGuard .neq 26 ox oy (.agg #[.int .u8 a,.int .u64 b]) (.agg #[.int .u8 c,.int .u64 d])).run Tryz.prog w = .ok () w:=by
  unfold eqGuard
  go_simp
 have h2:(binOp .neq 26 (.agg #[.int .u8 a,.int .u64 b]) (.agg #[.int .u8 c,.int .u64 d])).run Tryz.prog w = .ok (.bool (!(vEq a b c d))) w:=by
  rw [run_neq_struct,run_eqi_value]
  rfl
 exact Sy.eqG2 h1 h2
open Go.Sy in
set_option maxRecDepth 100000 in
theorem sameExpr_any:∀ (N:Nat) (e1 e2:Ex) (cs1 cs2:List Value) (w:World),wgt e1≤N→wgt e1≤1099511627776→ExAt (·<w.heap.size) w e1 cs1→ExAt (·<w.heap.size) w e2 cs2→
  CB 9 #[.agg cs1.toArray,.agg cs2.toArray] w (.bool (sameEx e1 e2)):=by
 intro N
 induction N with
 | zero=>intro e1 e2 cs1 cs2 w h;have:=wgt_pos e1;omega
 | succ N ihN=>
   intro e1 e2 cs1 cs2 w hN hbd hat1 hat2
   obtain ⟨op1,ty1,bits1,name1,kids1⟩:=e1
   obtain ⟨op2,ty2,bits2,name2,kids2⟩:=e2
   simp only [ExAt] at hat1 hat2
   obtain ⟨a1,cap1,xs1,rfl,hsl1,hks1⟩:=hat1
   obtain ⟨a2,cap2,xs2,rfl,hsl2,hks2⟩:=hat2
   simp only [wgt] at hN hbd
   obtain ⟨n1,hn1⟩:∃ n,n=kids1.length:=⟨_,rfl⟩
   obtain ⟨n2,hn2⟩:∃ n,n=kids2.length:=⟨_,rfl⟩
   have hnl:=wgts_len kids1
   rw [← hn1] at hsl1 hnl ⊢
   rw [← hn2] at hsl2 ⊢
   refine eN [xV op1 ty1 bits1 name1 a1 n1 cap1,xV op2 ty2 bits2 name2 a2 n2 cap2] Tryz.func9 (fun γ0 hγ0=>?_)
   refine rs [12] 60 0 ?_
   rcases Bool.eq_false_or_eq_true (intEq op1 op2) with hop | hop
   rotate_left
   · refine gS 10 (x := .bool (!(intEq op1 op2))) (.bool true) (by rw [hop];rfl) ?_
     refine gS 11 (x := .bool (!(intEq op1 op2))) (.bool true) (by rw [hop];rfl) ?_
     refine rs [] 60 2 ?_
     refine gR (.bool false) (fun W hk=>⟨?_,hk.below⟩)
     rw [sameEx_f]
     intro h
     injection h
     rw [intEq_eq] at hop;simp_all
   refine gS 10 (x := .bool (!(intEq op1 op2))) (.bool false) (by rw [hop];rfl) ?_
   refine gS 11 (x := .bool (!(intEq op1 op2))) (.bool false) (by rw [hop];rfl) ?_
   refine rs [16] 60 0 ?_
   refine gV (.bool (!(vEq ty1 bits1 ty2 bits2))) (S:=(do eqGuard .neq 26 (.tmp 13) (.tmp 15) (.agg #[n8 ty1,n6 bits1]) (.agg #[n8 ty2,n6 bits2]);binOp .neq 26 (.agg #[n8 ty1,n6 bits1]) (.agg #[n8 ty2,n6 bits2]))) (fun W _=>run_neq_value _ _ _ _ _ _ W) ?_
   refine rs [19] 60 0 ?_
   rcases Bool.eq_false_or_eq_true (vEq ty1 bits1 ty2 bits2) with hva | hva
   rotate_left
   · refine gS 16 (x := .bool (!(vEq ty1 bits1 ty2 bits2))) (.bool true) (by rw [hva];rfl) ?_
     refine gS 17 (x := .bool (!(vEq ty1 bits1 ty2 bits2))) (.bool true) (by rw [hva];rfl) ?_
     refine gS 18 (x := .bool (!(vEq ty1 bits1 ty2 bits2))) (.bool true) (by rw [hva];rfl) ?_
     refine rs [] 60 2 ?_
     refine gR (.bool false) (fun W hk=>⟨?_,hk.below⟩)
     rw [sameEx_f]
     intro h
     injection h
     simp only [vEq,intEq_eq] at hva;simp_all
   refine gS 16 (x := .bool (!(vEq ty1 bits1 ty2 bits2))) (.bool false) (by rw [hva];rfl) ?_
   refine gS 17 (x := .bool (!(vEq ty1 bits1 ty2 bits2))) (.bool false) (by rw [hva];rfl) ?_
   refine gS 18 (x := .bool (!(vEq ty1 bits1 ty2 bits2))) (.bool false) (by rw [hva];rfl) ?_
   refine rs [26] 60 0 ?_
   rcases Bool.eq_false_or_eq_true (bEqL name1 name2) with hna | hna
   rotate_left
   · refine gS 23 (x := .bool (!(bEqL name1 name2))) (.bool true) (by rw [hna];rfl) ?_
     refine gS 24 (x := .bool (!(bEqL name1 name2))) (.bool true) (by rw [hna];rfl) ?_
     refine gS 25 (x := .bool (!(bEqL name1 name2))) (.bool true) (by rw [hna];rfl) ?_
     refine rs [] 60 2 ?_
     refine gR (.bool false) (fun W hk=>⟨?_,hk.below⟩)
     rw [sameEx_f]
     intro h
     injection h
     rw [bEqL_eq] at hna;simp_all
   refine gS 23 (x := .bool (!(bEqL name1 name2))) (.bool false) (by rw [hna];rfl) ?_
   refine gS 24 (x := .bool (!(bEqL name1 name2))) (.bool false) (by rw [hna];rfl) ?_
   refine gS 25 (x := .bool (!(bEqL name1 name2))) (.bool false) (by rw [hna];rfl) ?_
   refine rk ?_
   refine good_cond (b:=!(intEq (n1:Int) (n2:Int))) (by kernel_rfl) (fun hnn=>?_) (fun hnn=>?_)
   · refine rs [] 60 2 ?_
     refine gR (.bool false) (fun W hk=>⟨?_,hk.below⟩)
     rw [sameEx_f]
     intro h
     injection h
     rw [intEq_eq] at hnn;simp_all
   have hnn1:n1=n2:=by rw [intEq_eq] at hnn;have:(n1:Int)=(n2:Int):=(by simpa using hnn);omega
   have hop1:op1=op2:=by rw [intEq_eq] at hop;simpa using hop
   have ⟨hty1,hbi1⟩:ty1=ty2∧bits1=bits2:=by simp only [vEq,intEq_eq] at hva;simpa using hva
   have hna1:name1=name2:=by rw [bEqL_eq] at hna;simpa using hna
   refine rk ?_
   refine good_toLp ?_
   refine good_loopI (fun i:List Ex×List Ex×List Ex=>i.2.1.length) (fun i=>kids1=i.1++i.2.1∧kids2=i.1++i.2.2) (fun i=>⟨mkT [(2,.ptr gz 0),(3,.ptr (gz+1) 0),(5,vI (i.1.length:Int))],mkH [(gz,bK 29 5 (xA op1 ty1 bits1 name1 a1 n1 cap1)),(gz+1,bK 29 5 (xA op2 ty2 bits2 name2 a2 n2 cap2))],gz+2,[]⟩)
    ([],kids1,kids2) ⟨rfl,rfl⟩ (by kernel_rfl)
    (fun h=>gU _ [(2,.ptr gz 0),(3,.ptr (gz+1) 0),(5,vI (([]:List Ex).length:Int))] [(gz,bK 29 5 (xA op1 ty1 bits1 name1 a1 n1 cap1)),(gz+1,bK 29 5 (xA op2 ty2 bits2 name2 a2 n2 cap2))] (gz+2) (fun b hb=>hγ0 b (Nat.le_trans (Nat.le_add_right _ 2) hb)) h) ?_
   rintro ⟨l1,l2,m2⟩ ⟨hI1,hI2⟩ ih
   simp only at hI1 hI2
   have hq1:n1=l1.length+l2.length:=by rw [hn1,hI1,List.length_append]
   have hq2:n2=l1.length+m2.length:=by rw [hn2,hI2,List.length_append]
   have hw1:wgts kids1=wgts l1+wgts l2:=by rw [hI1,wgts_app]
   refine rk ?_
   cases l2 with
   | nil=>
     obtain rfl:m2=[]:=List.eq_nil_of_length_eq_zero (by simp only [List.length_nil] at hq1;omega)
     refine ky (l1.length:Int) (n1:Int) (by rw [hq1];simp) ?_
     refine rk ?_
     refine gR (.bool true) (fun W hk=>⟨?_,hk.below⟩)
     rw [sameEx_t.2 (by rw [hI1,hI2,hop1,hty1,hbi1,hna1])]
   | cons e1 l3=>
     obtain ⟨e2,m3,rfl⟩:∃ e2 m3,m2=e2::m3:=by
      cases m2 with
      | nil=>simp only [List.length_nil,List.length_cons] at hq1 hq2;omega
      | cons a b=>exact ⟨a,b,rfl⟩
     have hin1:l1.length<n1:=by rw [hq1,List.length_cons];omega
     have hin2:l1.length<n2:=by omega
     have hks1':=hks1
     have hks2':=hks2
     rw [hI1] at hks1'
     rw [hI2] at hks2'
     obtain ⟨c1,hc1,hcell1⟩:=hks1'.at_
     obtain ⟨c2,hc2,hcell2⟩:=hks2'.at_
     have hcl1:=hc1.len
     have hcl2:=hc2.len
     simp only [wgts] at hw1
     refine kx (l1.length:Int) (n1:Int) (by omega) ?_
     refine rk ?_
     refine good_draw sy_mixed (by kernel_rfl) ?_
     refine q_run [] 60 ?_
     refine qI 27 29 cap1 l1.length hsl1 hin1 ?_
     have hld1:=fun W hk=>load_slA (P:=Tryz.prog) (ty:=29) (m:=5) (cs:=c1) hsl1 (by kernel_rfl) (by kernel_rfl) l1.length 0 hcl1 hcell1 (W:=W) hk
     have hld2:=fun W hk=>load_slA (P:=Tryz.prog) (ty:=29) (m:=5) (cs:=c2) hsl2 (by kernel_rfl) (by kernel_rfl) l1.length 0 hcl2 hcell2 (W:=W) hk
     have hcall:=fun W hk=>ihN e1 e2 c1 c2 W (by omega) (by omega) (hc1.keep hk (kU hk)) (hc2.keep hk (kU hk))
     obtain ⟨op3,ty3,bits3,name3,kids3⟩:=e1
     obtain ⟨op4,ty4,bits4,name4,kids4⟩:=e2
     simp only [ExAt] at hc1 hc2
     obtain ⟨a3,cap3,xs3,rfl,_⟩:=hc1
     obtain ⟨a4,cap4,xs4,rfl,_⟩:=hc2
     refine q_run [] 60 ?_
     refine qV (xV op3 ty3 bits3 name3 a3 kids3.length cap3) (S:=Instr.loadAt 29 (.pointer (some ⟨gB a1,oB a1+l1.length*5+0,none⟩))) (fun W hk=>hld1 W hk) ?_
     refine q_run [] 60 ?_
     refine qI 27 29 cap2 l1.length hsl2 hin2 ?_
     refine q_run [] 60 ?_
     refine qV (xV op4 ty4 bits4 name4 a4 kids4.length cap4) (S:=Instr.loadAt 29 (.pointer (some ⟨gB a2,oB a2+l1.length*5+0,none⟩))) (fun W hk=>hld2 W hk) ?_
     refine q_run [] 60 ?_
     refine qB [xV op3 ty3 bits3 name3 a3 kids3.length cap3,xV op4 ty4 bits4 name4 a4 kids4.length cap4] (.bool (sameEx (Ex.mk op3 ty3 bits3 name3 kids3) (Ex.mk op4 ty4 bits4 name4 kids4))) (fun W hk=>hcall W hk) ?_
     refine q_run [] 60 ?_
     refine qE ?_
     refine rk ?_
     refine good_cond (b:=!(sameEx (Ex.mk op3 ty3 bits3 name3 kids3) (Ex.mk op4 ty4 bits4 name4 kids4))) (by kernel_rfl) (fun hss=>?_) (fun hss=>?_)
     · refine rs [] 60 2 ?_
       refine gR (.bool false) (fun W hk=>⟨?_,hk.below⟩)
       rw [sameEx_f]
       intro h
       injection h with _ _ _ _ h
       rw [hI1,hI2] at h
       have h2:=(List.cons.inj (List.append_cancel_left h)).1
       rw [sameEx_t.2 h2] at hss
       cases hss
     · have hss1:=sameEx_t.1 (show sameEx (Ex.mk op3 ty3 bits3 name3 kids3) (Ex.mk op4 ty4 bits4 name4 kids4)=true by simpa using hss)
       refine rs [] 60 2 ?_
       refine gS 5 (x:=nI (wrapF .i64 ((l1.length:Int)+1))) (nI ((l1++[(Ex.mk op3 ty3 bits3 name3 kids3)]).length:Nat)) (by rw [wr64 (by omega) (by omega)];congr 1;simp) ?_
       exact gU _ [(2,.ptr gz 0),(3,.ptr (gz+1) 0),(5,vI ((l1++[(Ex.mk op3 ty3 bits3 name3 kids3)]).length:Int))] [(gz,bK 29 5 (xA op1 ty1 bits1 name1 a1 n1 cap1)),(gz+1,bK 29 5 (xA op2 ty2 bits2 name2 a2 n2 cap2))] (gz+2) (fun b hb=>hγ0 b (Nat.le_trans (Nat.le_add_right _ 2) hb))
        (ih (l1++[(Ex.mk op3 ty3 bits3 name3 kids3)],l3,m3) (by
         constructor
         · show kids1=(l1++[_])++l3;rw [hI1];simp
         · show kids2=(l1++[_])++m3;rw [hI2,hss1];simp) lS1)
end
section
def LsAt {α:Type} (A:α→List Value→Prop):List α→List Value→Prop
 | [],xs=>xs=[]
 | e::l,xs=>∃ c r,xs=c++r∧A e c∧LsAt A l r
theorem LsAt.imp {α:Type} {A A':α→List Value→Prop} (h:∀ e c,A e c→A' e c):∀ {l:List α} {xs:List Value},LsAt A l xs→LsAt A' l xs
 | [],xs,hx=>hx
 | e::l,xs,⟨c,r,h1,h2,h3⟩=>⟨c,r,h1,h e c h2,LsAt.imp h h3⟩
theorem LsAt.snoc {α:Type} {A:α→List Value→Prop} {e:α} {c:List Value}:∀ {l:List α} {xs:List Value},LsAt A l xs→A e c→LsAt A (l++[e]) (xs++c)
 | [],xs,h,hc=>by
   obtain rfl:xs=[]:=h
   exact ⟨c,[],by simp,hc,rfl⟩
 | x::l,xs,⟨c1,r,h1,h2,h3⟩,hc=>⟨c1,r++c,by rw [h1];simp,h2,LsAt.snoc h3 hc⟩
theorem LsAt.at_ {α:Type} {A:α→List Value→Prop} {k:Nat} (hk:∀ e c,A e c→c.length=k):∀ {l1:List α} {e:α} {l3:List α} {xs:List Value},LsAt A (l1++e::l3) xs→∃ c,A e c∧∀ j v,c[j]?=some v→xs[l1.length*k+j]?=some v
 | [],e,l3,xs,⟨c,r,h1,h2,h3⟩=>by
   subst h1
   refine ⟨c,h2,fun j v hv=>?_⟩
   rw [List.length_nil,Nat.zero_mul,Nat.zero_add,List.getElem?_append_left (List.getElem?_eq_some_iff.1 hv).1]
   exact hv
 | x::l1,e,l3,xs,⟨c,r,h1,h2,h3⟩=>by
   subst h1
   obtain ⟨c',h4,h5⟩:=LsAt.at_ hk h3
   refine ⟨c',h4,fun j v hv=>?_⟩
   have hl:=hk _ _ h2
   rw [List.length_cons,Nat.succ_mul,List.getElem?_append_right (by omega),show l1.length*k+k+j - c.length=l1.length*k+j by omega]
   exact h5 j v hv
inductive St where
 | mk (kind:Int) (name:List UInt8) (e:Ex) (body els:List St)
mutual
def swt:St→Nat
 | .mk _ _ e b l=>1+wgt e+swts b+swts l
def swts:List St→Nat
 | []=>0
 | s::l=>swt s+swts l
end
theorem swts_app:∀ (l r:List St),swts (l++r)=swts l+swts r
 | [],r=>by simp [swts]
 | e::l,r=>by
   rw [List.cons_append]
   simp only [swts]
   rw [swts_app l r]
   omega
theorem swt_pos (s:St):0<swt s:=by cases s;simp only [swt];omega
theorem swts_len:∀ (l:List St),l.length≤swts l
 | []=>Nat.zero_le _
 | e::l=>by
   have:=swts_len l
   have:=swt_pos e
   simp only [swts,List.length_cons]
   omega
mutual
def StAt (F:Nat→Prop) (w:World):St→List Value→Prop
 | .mk kind name e body els,cs=>∃ ec a cap xs b cap2 ys,cs = .int .i64 kind :: .string (str name)::(ec++[.slice a body.length cap,.slice b els.length cap2])∧ExAt F w e ec∧Sy.SlAt F w a body.length 9 xs∧StsAt F w body xs∧Sy.SlAt F w b els.length 9 ys∧StsAt F w els ys
def StsAt (F:Nat→Prop) (w:World):List St→List Value→Prop
 | [],xs=>xs=[]
 | e::l,xs=>∃ c r,xs=c++r∧StAt F w e c∧StsAt F w l r
end
theorem StsAt_ls {F:Nat→Prop} {w:World}:∀ {l:List St} {xs:List Value},StsAt F w l xs↔LsAt (StAt F w) l xs
 | [],xs=>by simp only [StsAt,LsAt]
 | e::l,xs=>by
   simp only [StsAt,LsAt]
   exact ⟨fun ⟨c,r,h1,h2,h3⟩=>⟨c,r,h1,h2,StsAt_ls.1 h3⟩,fun ⟨c,r,h1,h2,h3⟩=>⟨c,r,h1,h2,StsAt_ls.2 h3⟩⟩
theorem ExsAt_ls {F:Nat→Prop} {w:World}:∀ {l:List Ex} {xs:List Value},ExsAt F w l xs↔LsAt (ExAt F w) l xs
 | [],xs=>by simp only [ExsAt,LsAt]
 | e::l,xs=>by
   simp only [ExsAt,LsAt]
   exact ⟨fun ⟨c,r,h1,h2,h3⟩=>⟨c,r,h1,h2,ExsAt_ls.1 h3⟩,fun ⟨c,r,h1,h2,h3⟩=>⟨c,r,h1,h2,ExsAt_ls.2 h3⟩⟩
theorem StAt.len {F:Nat→Prop} {w:World} {s:St} {cs:List Value} (h:StAt F w s cs):cs.length=9:=by
 cases s
 simp only [StAt] at h
 obtain ⟨ec,a,cap,xs,b,cap2,ys,rfl,h2,_⟩:=h
 have:=h2.len
 simp [this]
mutual
theorem StAt.keep {F F':Nat→Prop} {w w':World} (hk:Sy.Keep F w w') (hF:∀ k,F k→F' k):∀ {s:St} {cs:List Value},StAt F w s cs→StAt F' w' s cs
 | .mk kind name e body els,cs,h=>by
   simp only [StAt] at h ⊢
   obtain ⟨ec,a,cap,xs,b,cap2,ys,h1,h2,h3,h4,h5,h6⟩:=h
   exact ⟨ec,a,cap,xs,b,cap2,ys,h1,h2.keep hk hF,(h3.keep hk).mono hF,StsAt.keep hk hF h4,(h5.keep hk).mono hF,StsAt.keep hk hF h6⟩
theorem StsAt.keep {F F':Nat→Prop} {w w':World} (hk:Sy.Keep F w w') (hF:∀ k,F k→F' k):∀ {l:List St} {xs:List Value},StsAt F w l xs→StsAt F' w' l xs
 | [],xs,h=>by simp only [StsAt] at h ⊢;exact h
 | e::l,xs,h=>by
   simp only [StsAt] at h ⊢
   obtain ⟨c,r,h1,h2,h3⟩:=h
   exact ⟨c,r,h1,StAt.keep hk hF h2,StsAt.keep hk hF h3⟩
end
theorem StsAt.at_ {F:Nat→Prop} {w:World} {l1:List St} {e:St} {l3:List St} {xs:List Value} (h:StsAt F w (l1++e::l3) xs):∃ c,StAt F w e c∧∀ j v,c[j]?=some v→xs[l1.length*9+j]?=some v:=
 LsAt.at_ (fun _ _ h=>h.len) (StsAt_ls.1 h)
structure Vr where
 name:List UInt8
 ty:Int
 bits:Int
def VrAt (v:Vr) (cs:List Value):Prop:=cs=[.string (str v.name),.int .u8 v.ty,.int .u64 v.bits]
theorem VrAt.len {v:Vr} {cs:List Value} (h:VrAt v cs):cs.length=3:=by rw [h];rfl
def TxAt (s:List UInt8) (cs:List Value):Prop:=cs=[.string (str s)]
theorem TxAt.len {v:List UInt8} {cs:List Value} (h:TxAt v cs):cs.length=1:=by rw [h];rfl
structure Th where
 name:List UInt8
 locals:List Vr
 body:List St
def ThAt (F:Nat→Prop) (w:World) (t:Th) (cs:List Value):Prop:=
 ∃ a cap xs b cap2 ys,cs=[.string (str t.name),.slice a t.locals.length cap,.slice b t.body.length cap2]∧Sy.SlAt F w a t.locals.length 3 xs∧LsAt VrAt t.locals xs∧Sy.SlAt F w b t.body.length 9 ys∧StsAt F w t.body ys
theorem ThAt.len {F:Nat→Prop} {w:World} {t:Th} {cs:List Value} (h:ThAt F w t cs):cs.length=3:=by
 obtain ⟨a,cap,xs,b,cap2,ys,rfl,_⟩:=h;rfl
theorem ThAt.keep {F F':Nat→Prop} {w w':World} (hk:Sy.Keep F w w') (hF:∀ k,F k→F' k) {t:Th} {cs:List Value} (h:ThAt F w t cs):ThAt F' w' t cs:=by
 obtain ⟨a,cap,xs,b,cap2,ys,h1,h2,h3,h4,h5⟩:=h
 exact ⟨a,cap,xs,b,cap2,ys,h1,(h2.keep hk).mono hF,h3,(h4.keep hk).mono hF,h5.keep hk hF⟩
structure Pg where
 shared:List Vr
 mutexes:List (List UInt8)
 threads:List Th
def PgAt (F:Nat→Prop) (w:World) (p:Pg) (cs:List Value):Prop:=
 ∃ a cap xs b cap2 ys d cap3 zs,cs=[.slice a p.shared.length cap,.slice b p.mutexes.length cap2,.slice d p.threads.length cap3]∧Sy.SlAt F w a p.shared.length 3 xs∧LsAt VrAt p.shared xs∧Sy.SlAt F w b p.mutexes.length 1 ys∧LsAt TxAt p.mutexes ys∧Sy.SlAt F w d p.threads.length 3 zs∧LsAt (ThAt F w) p.threads zs
theorem PgAt.keep {F F':Nat→Prop} {w w':World} (hk:Sy.Keep F w w') (hF:∀ k,F k→F' k) {p:Pg} {cs:List Value} (h:PgAt F w p cs):PgAt F' w' p cs:=by
 obtain ⟨a,cap,xs,b,cap2,ys,d,cap3,zs,h1,h2,h3,h4,h5,h6,h7⟩:=h
 exact ⟨a,cap,xs,b,cap2,ys,d,cap3,zs,h1,(h2.keep hk).mono hF,h3,(h4.keep hk).mono hF,h5,(h6.keep hk).mono hF,h7.imp (fun _ _ h=>h.keep hk hF)⟩
end
section
noncomputable def sameB {α:Type} (a b:α):Bool:=@decide (a=b) (Classical.propDecidable _)
theorem sameB_t {α:Type} {a b:α}:sameB a b=true↔a=b:=by unfold sameB;exact @decide_eq_true_iff _ (Classical.propDecidable _)
theorem sameB_f {α:Type} {a b:α} (h:a≠b):sameB a b=false:=by rw [← Bool.not_eq_true,sameB_t];exact h
open Go.Sy in
set_option maxRecDepth 100000 in
theorem sameTexts_any (L M:List (List UInt8)) (a1 a2:Option Addr) (n1 n2 cap1 cap2:Nat) (xs1 xs2:List Value) (w:World) (hn1:n1=L.length) (hn2:n2=M.length) (hbd:n1≤1099511627776)
  (hsl1:Sy.SlAt (·<w.heap.size) w a1 n1 1 xs1) (hsl2:Sy.SlAt (·<w.heap.size) w a2 n2 1 xs2) (hks1:LsAt TxAt L xs1) (hks2:LsAt TxAt M xs2):
  CB 25 #[.slice a1 n1 cap1,.slice a2 n2 cap2] w (.bool (sameB L M)):=by
 refine eN [.slice a1 n1 cap1,.slice a2 n2 cap2] Tryz.func25 (fun γ0 hγ0=>?_)
 refine rk ?_
 refine good_cond (b:=!(intEq (n1:Int) (n2:Int))) (by kernel_rfl) (fun hnn=>?_) (fun hnn=>?_)
 ·
  refine rs [] 60 2 ?_
  refine gR (.bool false) (fun W hk=>⟨?_,hk.below⟩)
  rw [sameB_f]
  intro h
  rw [intEq_eq] at hnn;simp_all
 have hnn1:n1=n2:=by rw [intEq_eq] at hnn;have:(n1:Int)=(n2:Int):=(by simpa using hnn);omega
 refine rk ?_
 refine good_toLp ?_
 refine good_loopI (fun i:List (List UInt8)×List (List UInt8)×List (List UInt8)=>i.2.1.length) (fun i=>L=i.1++i.2.1∧M=i.1++i.2.2) (fun i=>⟨mkT [(0,vL a1 n1 cap1),(1,vL a2 n2 cap2),(5,vI (i.1.length:Int))],mkH [],gz,[]⟩)
  ([],L,M) ⟨rfl,rfl⟩ (by kernel_rfl)
  (fun h=>gU _ [(0,vL a1 n1 cap1),(1,vL a2 n2 cap2),(5,vI (([]:List (List UInt8)).length:Int))] [] gz (fun b hb=>hγ0 b hb) h) ?_
 rintro ⟨l1,l2,m2⟩ ⟨hI1,hI2⟩ ih
 simp only at hI1 hI2
 have hq1:n1=l1.length+l2.length:=by rw [hn1,hI1,List.length_append]
 have hq2:n2=l1.length+m2.length:=by rw [hn2,hI2,List.length_append]
 refine rk ?_
 cases l2 with
 | nil=>
   obtain rfl:m2=[]:=List.eq_nil_of_length_eq_zero (by simp only [List.length_nil] at hq1;omega)
   refine ky (l1.length:Int) (n1:Int) (by rw [hq1];simp) ?_
   refine rk ?_
   refine gR (.bool true) (fun W hk=>⟨?_,hk.below⟩)
   rw [sameB_t.2 (by rw [hI1,hI2])]
 | cons x l3=>
   obtain ⟨y,m3,rfl⟩:∃ y m3,m2=y::m3:=by
    cases m2 with
    | nil=>simp only [List.length_nil,List.length_cons] at hq1 hq2;omega
    | cons a b=>exact ⟨a,b,rfl⟩
   have hin1:l1.length<n1:=by rw [hq1,List.length_cons];omega
   have hin2:l1.length<n2:=by omega
   have hks1':=hks1
   have hks2':=hks2
   rw [hI1] at hks1'
   rw [hI2] at hks2'
   obtain ⟨c1,hc1,hcell1⟩:=hks1'.at_ (fun _ _ h=>h.len)
   obtain ⟨c2,hc2,hcell2⟩:=hks2'.at_ (fun _ _ h=>h.len)
   refine kx (l1.length:Int) (n1:Int) (by omega) ?_
   refine rk ?_
   obtain rfl:c1=[nT x]:=hc1
   obtain rfl:c2=[nT y]:=hc2
   refine good_draw sy_mixed (by kernel_rfl) ?_
   refine q_run [] 60 ?_
   refine qI 30 9 cap1 l1.length hsl1 hin1 ?_
   refine q_run [] 60 ?_
   refine qL 9 (nT x) l1.length 0 hsl1 (hcell1 0 _ rfl) ?_
   refine q_run [] 60 ?_
   refine qI 30 9 cap2 l1.length hsl2 hin2 ?_
   refine q_run [] 60 ?_
   refine qL 9 (nT y) l1.length 0 hsl2 (hcell2 0 _ rfl) ?_
   refine q_run [] 60 ?_
   refine qE ?_
   refine rk ?_
   refine good_cond (b:=!(bEqL x y)) (by kernel_rfl) (fun hss=>?_) (fun hss=>?_)
   ·
    have hne:x≠y:=fun h=>by rw [h,bEqL_eq] at hss;simp at hss
    refine rs [] 60 2 ?_
    refine gR (.bool false) (fun W hk=>⟨?_,hk.below⟩)
    rw [sameB_f]
    intro h
    rw [hI1,hI2] at h
    have h2:=(List.cons.inj (List.append_cancel_left h)).1
    exact hne h2
   ·
    have hxy:x=y:=by rw [bEqL_eq] at hss;simpa using hss
    refine rs [] 60 2 ?_
    refine gJ 5 l1 x (by omega) ?_
    exact gU _ [(0,vL a1 n1 cap1),(1,vL a2 n2 cap2),(5,vI ((l1++[x]).length:Int))] [] gz (fun b hb=>hγ0 b hb) (ih (l1++[x],l3,m3) ⟨(by show L=(l1++[_])++l3;rw [hI1];simp),(by show M=(l1++[_])++m3;rw [hI2,← hxy];simp)⟩ lS1)
end
section
structure CI (α:Type) where
 l1:List α
 l2:List α
 xs:List Value
 X:Sy.AV
 ob:Option Sy.Blk
end
section
theorem run_eql_value (ox oy:Operand) (a b c d:Int) (w:World):
  (do eqGuard .eql 26 ox oy (.agg #[.int .u8 a,.int .u64 b]) (.agg #[.int .u8 c,.int .u64 d]);binOp .eql 26 (.agg #[.int .u8 a,.int .u64 b]) (.agg #[.int .u8 c,.int .u64 d]):Sem Value).run Tryz.prog w = .ok (.bool (vEq a b c d)) w:=by
 have h1:(eqGuard .eql 26 ox oy (.agg #[.int .u8 a,.int .u64 b]) (.agg #[.int .u8 c,.int .u64 d])).run Tryz.prog w = .ok () w:=by
  have:=valueGuard
  unfold eqGuard
  go_simp
 have h2:(binOp .eql 26 (.agg #[.int .u8 a,.int .u64 b]) (.agg #[.int .u8 c,.int .u64 d])).run Tryz.prog w = .ok (.bool (vEq a b c d)) w:=by
  rw [run_eql_struct,run_eqi_value]
  rfl
 exact Sy.eqG2 h1 h2
end
section
theorem store_soft {P:Program} {ty:TypeId} (hz:Sy.szB P ty=some 1) {w:World} {b o:Nat} {c:Array Value} {e:TypeId} (hb:w.heap[b]?=some (.cells c e (0,0))) (ho:o<c.size) {v:Value} (hv:v.cells=#[v]) (h1:v.oneCell'=true):
  (Instr.storeAt ty (.pointer (some ⟨b,o,none⟩)) v).run P w = .ok () (w.setRow b (c.toList.take o++[v]++c.toList.drop (o+1)).toArray):=by
 have hst:=run_storeCells_at (P:=P) b o e [v] 0 c w hb (by simp only [List.length_cons,List.length_nil];omega) (by simpa using h1)
 simp only [Nat.add_zero,List.length_cons,List.length_nil,Nat.zero_add] at hst
 simp [Instr.storeAt,Instr.sureAddr,storeVar,Sy.szB_ok hz,hv,hst]
end
section
theorem ld_pt {P:Program} {F:Nat→Prop} {w:World} {b o sz:Nat} {xs:List Value} {ty:TypeId} (h:Sy.SlAt F w (some ⟨b,o,none⟩) 1 sz xs) (hb:Sy.aggB P ty=some false) (j:Nat) {v:Value} (hv:xs[j]?=some v) {W:World} (hk:Sy.Keep F w W):
  (Instr.loadAt ty (.pointer (some ⟨b,o+j,none⟩))).run P W = .ok v W:=by
 have:=Sy.load_sl h hb 0 j (by simpa using hv) hk
 simpa [Sy.gB,Sy.oB] using this
end
end Go.Proofs.YtinjiigdijbjeaaGreatDoor
