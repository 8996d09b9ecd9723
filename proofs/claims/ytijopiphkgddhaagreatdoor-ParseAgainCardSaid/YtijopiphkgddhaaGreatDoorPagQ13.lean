/- Texts of this proof, one behind the other. Conditions: those in each theorem. -/
import Derived.Test.YtijopiphkgddhaaGreatDoorPagQ1
import Derived.Test.YtijopiphkgddhaaGreatDoorPagQ12
import Derived.Test.YtijopiphkgddhaaGreatDoorPagQ10
import Derived.Test.YtijopiphkgddhaaGreatDoorPagQ9
import Derived.Test.YtijopiphkgddhaaGreatDoorPagQ11
import Derived.Test.YtijopiphkgddhaaGreatDoorPagQ2
import Derived.Test.YtijopiphkgddhaaGreatDoorPagQ3
import Derived.Test.YtijopiphkgddhaaGreatDoorPagQ4
import Derived.Deep.Slices
import Derived.Handy
set_option linter.unusedVariables false
set_option linter.unusedSimpArgs false
namespace Go.Proofs.YtijopiphkgddhaaGreatDoor
open Go.RowKit Go.As
section
def gZ (s:List UInt8):Nat→Nat→Except (Int×Nat) (List (Nat×TR))
 | 0,_ => .ok []
 | f+1,k=>if k<s.length then
     (if (cY (s.drop k)).err=0 then (match gZ s f (nxN s (k+(cY (s.drop k)).len)) with
      | .ok l => .ok ((k,cY (s.drop k))::l)
      | .error e => .error e)
     else .error ((cY (s.drop k)).err,k+(cY (s.drop k)).off))
  else .ok []
def iP (s:List UInt8):Except (Int×Nat) (List (Nat×TR)):=if 16384<s.length then .error (3,16384) else gZ s (s.length+1) (nxN s 0)
def aCi (s:List UInt8) (p:Nat×TR):List Value:=(tkC p.2.kind ((s.drop p.1).take p.2.len) p.1 p.2.ty p.2.va).toList
def eT (s:List UInt8) (l:List (Nat×TR)):List Value:=l.flatMap (aCi s)
theorem tL {r:List UInt8} (hr:r≠[]) (h:(cY r).err=0):0<(cY r).len∧(cY r).len≤r.length:=by
 cases r with
 | nil=>exact absurd rfl hr
 | cons c t=>
   show 0<(eQ (c.toNat:Int) (c::t)).len∧_
   have h:(eQ (c.toNat:Int) (c::t)).err=0:=h
   show 0<(eQ (c.toNat:Int) (c::t)).len∧(eQ (c.toNat:Int) (c::t)).len≤_
   unfold eQ at h ⊢
   split
   · rename_i hle
     rw [if_pos hle] at h
     split
     · rename_i h24;rw [if_pos h24] at h;cases h
     · show 0<i8 (c::t)∧i8 (c::t)≤_
       unfold i8
       refine ⟨?_,(List.takeWhile_prefix _).length_le⟩
       rw [List.takeWhile_cons,if_pos (show nmB (c.toNat:Int)=true by unfold nmB;rw [hle];rfl)]
       simp
   · rename_i hle
     rw [if_neg hle] at h
     split
     · rename_i hdi
       rw [if_pos hdi] at h
       split
       · rename_i hok
         rw [if_pos hok] at h
         split
         · rename_i hst;rw [if_pos hst] at h;cases h
         · refine ⟨?_,aHs _⟩
           have:0<dgN (c::t):=by
            unfold dgN
            rw [List.takeWhile_cons,if_pos hdi]
            simp
           show 0<cK (c::t)
           unfold cK
           split <;> omega
       · rename_i hok;rw [if_neg hok] at h;cases h
     · rename_i hdi
       rw [if_neg hdi] at h
       split
       · rename_i hs;rw [if_pos hs] at h;cases h
       · rename_i hs
         refine ⟨Nat.pos_of_ne_zero hs,?_⟩
         show fT (c::t)≤_
         have h1:=aAd (c::t)
         have h2:fT (c::t)=2→2≤(c::t).length:=wM
         simp only [aB] at *
         omega
def aT1 (s:List UInt8) (w:World) (e:Ending) (w':World):Prop:=
 Below w.heap.size w w'∧match iP s with
  | .error q=>e = .returned (.tuple #[.slice none 0 0,.agg (fC q.1 (q.2:Nat))])
  | .ok l=>∃ x,e = .returned (.tuple #[x,.agg (fC 0 0)])∧w'.ownsRow w.heap.size 44 5 x l.length (eT s l)
structure LxI where
 f:Nat
 k:Nat
 pre:List (Nat×TR)
 X:Sy.AV
 ob:Option Sy.Blk
def aSa (s:List UInt8) (i:LxI):Prop:=s.length<i.f+i.k∧i.k≤s.length∧i.pre.length≤i.k∧Sy.RowAt 44 5 6 i.pre.length (eT s i.pre) i.X i.ob∧
 iP s=match gZ s i.f i.k with
  | .ok l => .ok (i.pre++l)
  | .error q => .error q
open Go.Sy in
set_option maxRecDepth 100000 in
theorem y6 (s:List UInt8) (w:World):Calls Tryz.prog 8 #[nT s] w (aT1 s w):=by
 refine Sy.enter (vs:=[nT s]) p4 Tryz.func8 rfl (fun γ=>LR.vs _) rfl (fun γ0 hγ0=>?_)
 refine rk ?_
 by_cases hlong:16384<s.length
 · refine gK true (b:=intLt 16384 ((str s).size:Nat)) (by rw [str_size];exact qC (by omega)) (rk ?_)
   refine gR (.tuple #[.slice none 0 0,.agg (fC 3 (16384:Nat))]) (fun W hk=>⟨hk.below,?_⟩)
   unfold iP
   rw [if_pos hlong]
 have hs:s.length≤1048576:=by omega
 refine gK false (b:=intLt 16384 ((str s).size:Nat)) (by rw [str_size];exact rE (by omega)) (rk ?_)
 refine gP [nT s,nI 0] (nI (nxN s 0:Nat)) (fun w _=>aGg s 0 hs (Nat.zero_le _) w) (rk ?_)
 refine cF ?_
 refine cZ (fun i:LxI=>i.f) (aSa s) (fun i=>⟨mkT [(0,vT s),(3,.ptr 5 0),(4,i.X),(5,vI (i.k:Int))],mkH [(5,bK 30 2 [vI 0,vI 0]),(6,i.ob)],7,[]⟩)
  ⟨s.length+1,nxN s 0,[],vL none 0 0,none⟩ ⟨by show _<s.length+1+_;omega,(lK (Nat.zero_le _)).2,Nat.zero_le _,RowAt.nil _ _ _,by
   unfold iP
   rw [if_neg hlong]
   cases gZ s (s.length+1) (nxN s 0) <;> rfl⟩ (by kernel_rfl)
  (fun h=>gU _ [(0,vT s),(3,.ptr 5 0),(4,vL none 0 0),(5,vI (nxN s 0:Nat))] [(5,bK 30 2 [vI 0,vI 0]),(6,none)] 7 (fun b hb=>hγ0 b (bC (of_decide_eq_true (by kernel_rfl)) hb)) h) ?_
 rintro ⟨f,k,pre,X,ob⟩ ⟨i1,i2,i3,i4,i5⟩ ih
 simp only at i1 i2 i3 i4 i5
 refine rk ?_
 by_cases hlt:k<s.length
 · refine gK true (b:=intLt (k:Int) ((str s).size:Nat)) (by rw [str_size];exact qC (by omega)) ?_
   cases f with
   | zero=>omega
   | succ f=>
     obtain ⟨r,hr⟩:∃ r,r=s.drop k:=⟨_,rfl⟩
     obtain ⟨R,hR⟩:∃ R,R=cY r:=⟨_,rfl⟩
     have hrl:r.length=s.length - k:=by rw [hr,bI]
     have htk:=fun W=>aOo s k hs hlt W
     rw [← hr,← hR] at htk
     refine rk ?_
     by_cases herr:R.err=0
     · have hlen:=tL (r:=r) (fun e=>by rw [e] at hrl;simp at hrl;omega) (by rw [← hR];exact herr)
       rw [← hR] at hlen
       obtain ⟨T,hT⟩:∃ T,T=r.take R.len:=⟨_,rfl⟩
       have hTl:T.length=R.len:=by rw [hT,aT];omega
       have e1:oN R r k=tkC R.kind T k R.ty R.va:=by unfold oN;rw [if_pos herr,← hT]
       have e2:o7 R k=fC 0 0:=by unfold o7;rw [if_pos herr]
       rw [e1,e2] at htk
       obtain ⟨k',hk'⟩:∃ k',k'=k+R.len:=⟨_,rfl⟩
       have hnx:=lK (s:=s) (k:=k') (by omega)
       refine gX [nT s,nI (k:Int)] (.tuple #[.agg (tkC R.kind T k R.ty R.va),.agg (fC 0 0)]) (fun w _=>htk w) (rs [31] 60 1 ?_)
       refine nM (t:=36) (e:=44) (.slg 9 0 1 5) 5 48 6 pre.length 0 (eT s pre) X ob [nI R.kind,nT T,nI (k:Int),n8 R.ty,n6 R.va] [4,28] (by kernel_rfl) (by kernel_rfl) (by kernel_rfl) (by kernel_rfl) i4 (by kernel_rfl) (by kernel_rfl) (by kernel_rfl)
        (by unfold maxLen;omega) (by omega) (hγ0 6 (of_decide_eq_true (by kernel_rfl))) (by kernel_rfl) (by kernel_rfl) (by kernel_rfl) (by kernel_rfl) (by kernel_rfl) (fun X' ob' hrow=>?_)
       refine rk ?_
       refine gS 37 (x:=nI (cA .i64 ((k:Int)+((str T).size:Nat)))) (nI (k':Int)) (by rw [str_size,cR (by omega) (by omega)];congr 1;omega) ?_
       refine gP [nT s,nI (k':Int)] (nI (nxN s k':Nat)) (fun w _=>aGg s k' hs (by omega) w) (rk ?_)
       have hcell:eT s (pre++[(k,R)])=eT s pre++[nI R.kind,nT T,nI (k:Int),n8 R.ty,n6 R.va]:=by
        unfold eT
        rw [List.flatMap_append,List.flatMap_cons,List.flatMap_nil,bF]
        show _++aCi s (k,R)=_
        unfold aCi
        rw [← hr,← hT]
        rfl
       have hI:aSa s ⟨f,nxN s k',pre++[(k,R)],X',ob'⟩:=by
        refine ⟨by show s.length<f+nxN s k';omega,hnx.2,by show (pre++[(k,R)]).length≤nxN s k';rw [aA,List.length_singleton];omega,by
         show RowAt _ 5 6 (pre++[(k,R)]).length (eT s (pre++[(k,R)])) X' ob'
         rw [hcell,aA,List.length_singleton]
         exact hrow,?_⟩
        show iP s=match gZ s f (nxN s k') with
         | .ok l => .ok ((pre++[(k,R)])++l)
         | .error q => .error q
        rw [i5]
        rw [show gZ s (f+1) k=(match gZ s f (nxN s k') with
         | .ok l => .ok ((k,R)::l)
         | .error e => .error e) by
         conv=>lhs;unfold gZ
         rw [if_pos hlt,← hr,← hR,if_pos herr,← hk']]
        cases gZ s f (nxN s k') <;> simp
       exact vC _ [(0,vT s),(3,.ptr 5 0),(4,X'),(5,vI (nxN s k':Nat))] [(5,bK 30 2 [vI 0,vI 0]),(6,ob')] 7 (by kernel_rfl) (by kernel_rfl) (by kernel_rfl)
        (by rcases hrow.2 with ⟨h,_⟩ | ⟨h,_⟩ <;> rw [h] <;> kernel_rfl) (by kernel_rfl) (by rcases hrow.2 with ⟨_,h,_⟩ | ⟨_,h⟩ <;> rw [h] <;> kernel_rfl) (fun b hb=>hγ0 b (bC (of_decide_eq_true (by kernel_rfl)) hb)) (by kernel_rfl) (ih ⟨f,nxN s k',pre++[(k,R)],X',ob'⟩ hI (by show f<f+1;omega))
     · have e1:oN R r k=tkC 0 [] 0 0 0:=by unfold oN;rw [if_neg herr]
       have e2:o7 R k=fC R.err ((k+R.off:Nat):Int):=by unfold o7;rw [if_neg herr]
       rw [e1,e2] at htk
       refine gX [nT s,nI (k:Int)] (.tuple #[.agg (tkC 0 [] 0 0 0),.agg (fC R.err ((k+R.off:Nat):Int))]) (fun w _=>htk w) (rk ?_)
       refine gK true (b:=not (intEq R.err 0)) (by rw [lC herr];rfl) (rk ?_)
       refine gR (.tuple #[.slice none 0 0,.agg (fC R.err ((k+R.off:Nat):Int))]) (fun W hk=>⟨hk.below,?_⟩)
       have hl:iP s = .error (R.err,k+R.off):=by
        rw [i5]
        unfold gZ
        rw [if_pos hlt,← hr,← hR,if_neg herr]
       rw [hl]
 · refine gK false (b:=intLt (k:Int) ((str s).size:Nat)) (by rw [str_size];exact rE (by omega)) (rk ?_)
   refine aBg (av := .tup [X,.agg [vI 0,vI 0]]) (by kernel_rfl) (fun γ W v _ hv hH hk=>⟨hk.below,?_⟩)
   have hl:iP s = .ok pre:=by
    rw [i5]
    cases f with
    | zero=>unfold gZ;simp
    | succ f=>unfold gZ;rw [if_neg hlt];simp
   rw [hl]
   obtain ⟨x,y,rfl,hx,hy⟩:=aSr hv
   have hy':=jY (y := .agg (fC 0 0)) rfl hy
   subst hy'
   exact ⟨x,rfl,(aC6 (base:=w.heap.size) i4 (by kernel_rfl) hH hx (fun j hj=>Nat.le_of_not_lt hj)).1⟩
end
section
def mT:Bool→List UInt8→Bool
 | _,[]=>true
 | nt,c::r=>if c.toNat=10 then mT false r else if c.toNat=35 then mT true r else if nt=true then mT true r else if c.toNat=9∨c.toNat=13∨c.toNat=32 then mT false r else false
end
section
theorem tO:∀ (b:Bool) (r:List UInt8),mT b (r.take (skN b r))=true
 | b,[]=>by cases b <;> rfl
 | false,c::r=>by
   show mT false ((c::r).take (if kM (c.toNat:Int) then skN false r+1 else if c.toNat=35 then skN true r+1 else 0))=true
   by_cases hb:kM (c.toNat:Int)=true
   · rw [if_pos hb,List.take_succ_cons]
     have ih:=tO false r
     unfold mT
     unfold kM at hb
     have hb:=of_decide_eq_true hb
     split
     · exact ih
     · split
       · omega
       · split
         · rename_i h;cases h
         · rw [if_pos (by omega)]
           exact ih
   · rw [if_neg hb]
     split
     · rename_i h35
       rw [List.take_succ_cons]
       have ih:=tO true r
       unfold mT
       rw [if_neg (by omega),if_pos h35]
       exact ih
     · rfl
 | true,c::r=>by
   show mT true ((c::r).take (if iK (c.toNat:Int) then skN true r+1 else skN false r+1))=true
   by_cases hb:iK (c.toNat:Int)=true
   · rw [if_pos hb,List.take_succ_cons]
     have ih:=tO true r
     unfold mT
     unfold iK at hb
     have hb:=of_decide_eq_true hb
     rw [if_neg (by omega)]
     split
     · exact ih
     · rw [if_pos rfl]
       exact ih
   · rw [if_neg hb,List.take_succ_cons]
     have ih:=tO false r
     unfold mT
     unfold iK at hb
     have hb:¬ (c.toNat:Int)≠10:=fun h=>hb (decide_eq_true h)
     rw [if_pos (by omega)]
     exact ih
def pP (s:List UInt8):Nat→List (Nat×TR)→Prop
 | at_,[]=>at_≤s.length∧mT false (s.drop at_)=true
 | at_,(k,R)::l=>at_≤k∧k<s.length∧mT false ((s.drop at_).take (k - at_))=true∧R=cY (s.drop k)∧R.err=0∧pP s (k+R.len) l
theorem yW {s:List UInt8} {k:Nat} (h:k<s.length):s.drop k≠[]:=fun e=>by
 have:=congrArg List.length e
 rw [bI] at this
 simp at this
 omega
theorem yG (s:List UInt8):∀ (f at_:Nat) (l:List (Nat×TR)),at_≤s.length→s.length<f+nxN s at_→gZ s f (nxN s at_) = .ok l→pP s at_ l
 | 0,at_,l,h1,h2,h=>by
   have:=lK h1
   omega
 | f+1,at_,l,h1,h2,h=>by
   have hnx:=lK h1
   obtain ⟨k,hk⟩:∃ k,k=nxN s at_:=⟨_,rfl⟩
   have hbet:mT false ((s.drop at_).take (k - at_))=true:=by
    rw [hk]
    unfold nxN
    rw [Nat.add_sub_cancel_left]
    exact tO false _
   rw [← hk] at h h2 hnx
   unfold gZ at h
   split at h
   · rename_i hlt
     split at h
     · rename_i herr
       split at h
       · rename_i l' hl'
         injection h with h
         subst h
         have hlen:=tL (yW hlt) herr
         rw [bI] at hlen
         have hnx2:=lK (s:=s) (k:=k+(cY (s.drop k)).len) (by omega)
         exact ⟨hnx.1,hlt,hbet,rfl,herr,yG s f _ l' (by omega) (by omega) hl'⟩
       · cases h
     · cases h
   · injection h with h
     subst h
     have hke:k=s.length:=by omega
     refine ⟨h1,?_⟩
     rw [hke,List.take_of_length_le (by rw [bI];omega)] at hbet
     exact hbet
theorem aHz (p:UInt8→Bool) (r:List UInt8) (c:UInt8) (q:List UInt8) (hc:p c=false):(r.take (r.takeWhile p).length++c::q).takeWhile p=r.takeWhile p:=by
 rw [← List.prefix_iff_eq_take.1 (List.takeWhile_prefix (p:=p) (l:=r)),List.takeWhile_append_of_pos (fun a ha=>bE (List.all_takeWhile (p:=p) (l:=r)) a ha),List.takeWhile_cons]
 simp [hc]
theorem aIv (r q:List UInt8):i8 (r.take (i8 r)++32::q)=i8 r:=by
 unfold i8
 rw [aHz _ r 32 q (by decide)]
theorem wX (r:List UInt8) (c:UInt8) (q:List UInt8) (hc:eD (c.toNat:Int)=false):dgN (r.take (dgN r)++c::q)=dgN r:=by
 unfold dgN
 rw [aHz _ r c q hc]
theorem sJ {r:List UInt8} {n:Nat} (h:n≤r.length) (c:UInt8) (q:List UInt8):(r.take n++c::q)[n]?=some c:=by
 rw [aP (by rw [aT];omega),aT,show n - min n r.length=0 by omega]
 rfl
theorem aRv {r:List UInt8} {n:Nat} (h:n≤r.length) (c:UInt8) (q:List UInt8):(r.take n++c::q).drop (n+1)=q:=by
 rw [List.drop_append,aT,show n+1 - min n r.length=1 by omega,List.drop_eq_nil_of_le (by rw [aT];omega)]
 rfl
theorem aQ4 (a x:List UInt8) (c:UInt8) (n:Nat):(a++c::x).take (a.length+1+n)=a++c::x.take n:=by
 rw [List.take_append,show a.length+1+n - a.length=n+1 by omega,List.take_succ_cons,List.take_of_length_le (by omega)]
theorem aNj (r q:List UInt8):cK (r.take (cK r)++32::q)=cK r∧ptN (r.take (cK r)++32::q)=ptN r:=by
 have hd:=qU r
 obtain ⟨r',hr'⟩:∃ r',r'=r.take (cK r)++32::q:=⟨_,rfl⟩
 rw [← hr']
 by_cases hp:ptN r=true
 · have hpt:=hp
   unfold ptN at hpt
   rw [aI] at hpt
   obtain ⟨h1,h2⟩:=hpt
   have h1:=eq_of_beq h1
   have hlt:=(List.getElem?_eq_some_iff.1 h1).1
   obtain ⟨x,hx⟩:∃ x,x=r.drop (dgN r+1):=⟨_,rfl⟩
   obtain ⟨a,ha⟩:∃ a,a=r.take (dgN r):=⟨_,rfl⟩
   have hal:a.length=dgN r:=by rw [ha,aT];omega
   have hx2:=qU x
   have hn:cK r=dgN r+1+dgN x:=by unfold cK;rw [if_pos hp,← hx]
   have hr:r=a++46::x:=by
    have h3:=(List.getElem?_eq_some_iff.1 h1).2
    have h4:=(List.take_append_drop (dgN r) r).symm
    rw [List.drop_eq_getElem_cons hlt,h3,← ha,← hx] at h4
    exact h4
   have ht:r.take (cK r)=a++46::x.take (dgN x):=by
    rw [hn,← hal]
    have:=aQ4 a x 46 (dgN x)
    rw [← hr] at this
    exact this
   have e1:r'=a++46::(x.take (dgN x)++32::q):=by rw [hr',ht,aK];rfl
   have e2:dgN r'=dgN r:=by rw [e1,ha];exact wX r 46 _ (by decide)
   have e3:r'[dgN r]?=some 46:=by rw [e1,ha];exact sJ hd 46 _
   have e4:r'.drop (dgN r+1)=x.take (dgN x)++32::q:=by rw [e1,ha];exact aRv hd 46 _
   have hx1:0<dgN x:=by
    cases hx':x with
    | nil=>rw [← hx,hx'] at h2;cases h2
    | cons a b=>
      rw [← hx,hx'] at h2
      have h2:eD (a.toNat:Int)=true:=by simpa using h2
      unfold dgN
      rw [List.takeWhile_cons,if_pos h2]
      simp
   have e5:ptN r'=true:=by
    unfold ptN
    rw [e2,e3,e4]
    cases hx':x with
    | nil=>rw [hx'] at hx1;cases hx1
    | cons a b=>
      rw [← hx,hx'] at h2
      rw [hx'] at hx1
      obtain ⟨m,hm⟩:∃ m,dgN (a::b)=m+1:=⟨dgN (a::b) - 1,by omega⟩
      rw [hm,List.take_succ_cons]
      simpa using h2
   refine ⟨?_,e5.trans hp.symm⟩
   have:cK r'=dgN r'+1+dgN (r'.drop (dgN r'+1)):=by unfold cK;rw [if_pos e5]
   rw [this,e2,e4,wX x 32 q (by decide),hn]
 · have hn:cK r=dgN r:=by unfold cK;rw [if_neg hp]
   rw [hn] at hr'
   have e2:dgN r'=dgN r:=by rw [hr'];exact wX r 32 _ (by decide)
   have e3:r'[dgN r]?=some 32:=by rw [hr'];exact sJ hd 32 _
   have e5:ptN r'=false:=by
    unfold ptN
    rw [e2,e3]
    rfl
   refine ⟨?_,by rw [e5];simpa using hp⟩
   have:cK r'=dgN r':=by unfold cK;rw [if_neg (by rw [e5];decide)]
   rw [this,e2,hn]
theorem aRl (c:UInt8) (t:List UInt8) (h:dS ((c::t).take 2) c=1):dS [c,32] c=1:=by
 unfold dS at h
 unfold dS
 have h6:∀ d e:UInt8,e≠32→¬ (([c,32]==[d,e])=true):=fun d e he h=>he (by
  have:=eq_of_beq h
  injection this with _ this
  injection this with this _
  exact this.symm)
 rw [if_neg (h6 61 61 (by decide)),if_neg (h6 33 61 (by decide)),if_neg (h6 60 61 (by decide)),if_neg (h6 62 61 (by decide)),if_neg (h6 38 38 (by decide)),if_neg (h6 124 124 (by decide))]
 by_cases g6161:(((c::t).take 2)==[61,61])=true
 · rw [if_pos g6161] at h;cases h
 rw [if_neg g6161] at h
 by_cases g3361:(((c::t).take 2)==[33,61])=true
 · rw [if_pos g3361] at h;cases h
 rw [if_neg g3361] at h
 by_cases g6061:(((c::t).take 2)==[60,61])=true
 · rw [if_pos g6061] at h;cases h
 rw [if_neg g6061] at h
 by_cases g6261:(((c::t).take 2)==[62,61])=true
 · rw [if_pos g6261] at h;cases h
 rw [if_neg g6261] at h
 by_cases g3838:(((c::t).take 2)==[38,38])=true
 · rw [if_pos g3838] at h;cases h
 rw [if_neg g3838] at h
 by_cases g124124:(((c::t).take 2)==[124,124])=true
 · rw [if_pos g124124] at h;cases h
 rw [if_neg g124124] at h
 exact h
theorem aLa (r q:List UInt8) (hs:fT r≠0):fT (r.take (fT r)++32::q)=fT r:=by
 cases r with
 | nil=>exact absurd rfl hs
 | cons c t=>
   have h2:=aAd (c::t)
   have hl:=wM (r:=c::t)
   have he:fT (c::t)=1∨fT (c::t)=2:=by omega
   rcases he with h1 | h1
   · rw [h1]
     show dS (([c]++32::q).take 2) c=1
     exact aRl c t h1
   · have:=hl h1
     rw [h1]
     cases t with
     | nil=>simp at this
     | cons d t=>
       show dS (([c,d]++32::q).take 2) c=2
       exact h1
theorem aD5 {r:List UInt8} (hr:r≠[]) (h:(cY r).err=0) (q:List UInt8):cY (r.take (cY r).len++32::q)=cY r:=by
 have hlen:=tL hr h
 obtain ⟨n,hn⟩:∃ n,n=(cY r).len:=⟨_,rfl⟩
 rw [← hn] at hlen ⊢
 cases r with
 | nil=>exact absurd rfl hr
 | cons c t=>
   obtain ⟨m,rfl⟩:∃ m,n=m+1:=⟨n - 1,by omega⟩
   have e0:cY ((c::t).take (m+1)++32::q)=eQ (c.toNat:Int) ((c::t).take (m+1)++32::q):=rfl
   have e1:cY (c::t)=eQ (c.toNat:Int) (c::t):=rfl
   rw [e0,e1]
   rw [e1] at h hn
   unfold eQ at h hn ⊢
   by_cases hle:i6 (c.toNat:Int)=true
   · rw [if_pos hle] at h hn ⊢
     rw [if_pos hle]
     by_cases h24:24<i8 (c::t)
     · rw [if_pos h24] at h;cases h
     · rw [if_neg h24] at hn ⊢
       have hn:m+1=i8 (c::t):=hn
       rw [hn,aIv,if_neg h24]
   · rw [if_neg hle] at h hn ⊢
     rw [if_neg hle]
     by_cases hdi:eD (c.toNat:Int)=true
     · rw [if_pos hdi] at h hn ⊢
       rw [if_pos hdi]
       by_cases hok:iZ (c::t)=true
       · rw [if_pos hok] at h hn ⊢
         by_cases hst:nZ (c::t)[cK (c::t)]?=true
         · rw [if_pos hst] at h;cases h
         · rw [if_neg hst] at hn ⊢
           have hn:m+1=cK (c::t):=hn
           rw [hn]
           obtain ⟨a1,a2⟩:=aNj (c::t) q
           have a3:fB ((c::t).take (cK (c::t))++32::q)=fB (c::t):=by
            unfold fB
            rw [a1,List.take_append_of_le_length (by rw [aT];omega),List.take_take,Nat.min_self]
           have a4:iZ ((c::t).take (cK (c::t))++32::q)=iZ (c::t):=by unfold iZ;rw [a2,a3]
           have a5:nmK ((c::t).take (cK (c::t))++32::q)=nmK (c::t):=by unfold nmK;rw [a2]
           have a6:nmT ((c::t).take (cK (c::t))++32::q)=nmT (c::t):=by unfold nmT;rw [a2,a3]
           have a7:nmV ((c::t).take (cK (c::t))++32::q)=nmV (c::t):=by unfold nmV;rw [a2,a3]
           rw [a4,if_pos hok,a1,sJ (by omega),if_neg (by decide),a5,a6,a7]
       · rw [if_neg hok] at h;cases h
     · rw [if_neg hdi] at h hn ⊢
       rw [if_neg hdi]
       by_cases hs:fT (c::t)=0
       · rw [if_pos hs] at h;cases h
       · rw [if_neg hs] at hn ⊢
         have hn:m+1=fT (c::t):=hn
         rw [hn,aLa _ _ hs,if_neg hs]
theorem aEo {c:UInt8} {t:List UInt8} (h:(cY (c::t)).err=0):skN false (c::t)=0:=by
 show (if kM (c.toNat:Int) then skN false t+1 else if c.toNat=35 then skN true t+1 else 0)=0
 have h:(eQ (c.toNat:Int) (c::t)).err=0:=h
 have key:¬ ((c.toNat:Int)=9∨(c.toNat:Int)=10∨(c.toNat:Int)=13∨(c.toNat:Int)=32∨(c.toNat:Int)=35):=by
  intro hc
  unfold eQ at h
  rw [if_neg (by unfold i6;simp;omega),if_neg (by unfold eD;simp;omega)] at h
  have:fT (c::t)=0:=by
   show dS ((c::t).take 2) c=0
   have hcc:c=9∨c=10∨c=13∨c=32∨c=35:=by
    have h5:c.toNat=9∨c.toNat=10∨c.toNat=13∨c.toNat=32∨c.toNat=35:=by omega
    rcases h5 with e | e | e | e | e
    · exact .inl (UInt8.toNat_inj.1 e)
    · exact .inr (.inl (UInt8.toNat_inj.1 e))
    · exact .inr (.inr (.inl (UInt8.toNat_inj.1 e)))
    · exact .inr (.inr (.inr (.inl (UInt8.toNat_inj.1 e))))
    · exact .inr (.inr (.inr (.inr (UInt8.toNat_inj.1 e))))
   have h2:∀ d e:UInt8,c≠d→((c::t).take 2==[d,e])=false:=fun d e hd=>by
    cases t <;> simp [hd]
   unfold dS
   rcases hcc with rfl | rfl | rfl | rfl | rfl <;> simp [h2]
  rw [if_pos this] at h
  cases h
 rw [if_neg (by unfold kM;simp;omega),if_neg (by omega)]
def cB (s:List UInt8) (l:List (Nat×TR)):List UInt8:=l.flatMap fun p=>(s.drop p.1).take p.2.len++[32]
def xO:Nat→List (Nat×TR)→List (Nat×TR)
 | _,[]=>[]
 | p,(k,R)::l=>(p,R)::xO (p+R.len+1) l
theorem k8 (s:List UInt8) (k:Nat) (R:TR) (l:List (Nat×TR)):cB s ((k,R)::l)=(s.drop k).take R.len++32::cB s l:=by
 unfold cB
 rw [List.flatMap_cons,aK]
 rfl
theorem aAx {s:List UInt8} {k:Nat} {R:TR} (hk:k<s.length) (hR:R=cY (s.drop k)) (he:R.err=0):∃ c t,(s.drop k).take R.len=c::t∧t.length+1=R.len:=by
 have hlen:=tL (yW hk) (hR ▸ he)
 rw [← hR] at hlen
 cases hT:(s.drop k).take R.len with
 | nil=>
   have:=congrArg List.length hT
   rw [aT] at this
   simp at this
   omega
 | cons c t=>
   refine ⟨c,t,rfl,?_⟩
   have:=congrArg List.length hT
   rw [aT,aB] at this
   omega
theorem aEw {s:List UInt8} {at_:Nat} {l:List (Nat×TR)} (h:pP s at_ l):skN false (cB s l)=0:=by
 cases l with
 | nil=>rfl
 | cons p l=>
   obtain ⟨k,R⟩:=p
   obtain ⟨_,hk,_,hR,he,_⟩:=h
   rw [k8]
   have:=aD5 (yW hk) (hR ▸ he) (cB s l)
   rw [← hR] at this
   obtain ⟨c,t,hT,_⟩:=aAx hk hR he
   rw [hT] at this ⊢
   exact aEo (by show (cY (c::(t++32::cB s l))).err=0;rw [bO] at this;rw [this];exact he)
theorem aSc (s:List UInt8):∀ (l:List (Nat×TR)) (at_ f:Nat) (pre:List UInt8),pP s at_ l→(pre++cB s l).length<f+pre.length→gZ (pre++cB s l) f pre.length = .ok (xO pre.length l)
 | [],at_,f,pre,h,hf=>by
   cases f with
   | zero=>rfl
   | succ f=>
     unfold gZ
     rw [if_neg (by show ¬ pre.length<(pre++[]).length;simp)]
     rfl
 | (k,R)::l,at_,f,pre,h,hf=>by
   obtain ⟨h1,hk,h3,hR,he,hc⟩:=h
   obtain ⟨c,t,hT,hTl⟩:=aAx hk hR he
   have hJ:pre++cB s ((k,R)::l)=(pre++((c::t)++[32]))++cB s l:=by rw [k8,hT];simp
   have hl:(pre++((c::t)++[32])).length=pre.length+R.len+1:=by simp;omega
   obtain ⟨J,hJJ⟩:∃ J,J=pre++cB s ((k,R)::l):=⟨_,rfl⟩
   have hJl:J.length=pre.length+R.len+1+(cB s l).length:=by rw [hJJ,hJ,aA,hl]
   rw [← hJJ] at hf ⊢
   have hd:J.drop pre.length=(s.drop k).take R.len++32::cB s l:=by rw [hJJ,List.drop_left,k8]
   have htok:cY (J.drop pre.length)=R:=by
    rw [hd]
    have:=aD5 (yW hk) (hR ▸ he) (cB s l)
    rw [← hR] at this
    exact this
   have hskip:=aEw hc
   have hnx:nxN J (pre.length+R.len)=pre.length+R.len+1:=by
    unfold nxN
    have:J.drop (pre.length+R.len)=32::cB s l:=by
     rw [← List.drop_drop,hd,hT]
     have:(c::t).length=R.len:=by rw [aB];exact hTl
     rw [← this,List.drop_left]
    rw [this]
    show _+(skN false (cB s l)+1)=_
    rw [hskip]
   cases f with
   | zero=>omega
   | succ f=>
     have ih:=aSc s l _ f (pre++((c::t)++[32])) hc (by rw [← hJ,← hJJ,hl];omega)
     rw [← hJ,← hJJ,hl] at ih
     unfold gZ
     rw [if_pos (by omega),htok,if_pos he,hnx,ih]
     rfl
theorem aL9 {s:List UInt8} {at_:Nat} {l:List (Nat×TR)} (h:pP s at_ l) (hl:¬ 16384<(cB s l).length):iP (cB s l) = .ok (xO 0 l):=by
 unfold iP
 rw [if_neg hl]
 have hn:nxN (cB s l) 0=0:=by
  unfold nxN
  rw [List.drop_zero,aEw h]
 rw [hn]
 have:=aSc s l at_ ((cB s l).length+1) [] h (by simp)
 simpa using this
end
section
def jB (s:List UInt8) (p:Nat×TR):Tok:=⟨p.2.kind,(s.drop p.1).take p.2.len,p.1,p.2.ty,p.2.va⟩
def eW (s:List UInt8):Option Pg:=match iP s with
 | .error _=>none
 | .ok l=>(pgK (l.map (jB s))).map (·.1)
theorem aJh (s:List UInt8):∀ l:List (Nat×TR),LsAt TokAt (l.map (jB s)) (eT s l)
 | []=>rfl
 | p::l=>by
   unfold eT
   rw [List.flatMap_cons]
   exact ⟨_,_,rfl,rfl,aJh s l⟩
theorem aHi {s:List UInt8}:∀ {f k:Nat} {q:Int×Nat},gZ s f k = .error q→¬ q.1=0
 | 0,k,q,h=>by cases h
 | f+1,k,q,h=>by
   unfold gZ at h
   split at h
   · split at h
     · split at h
       · cases h
       · rename_i e he
         injection h with h
         subst h
         exact aHi he
     · rename_i h1
       injection h with h
       subst h
       exact h1
   · cases h
theorem aP1 {s:List UInt8} {q:Int×Nat} (h:iP s = .error q):¬ q.1=0:=by
 unfold iP at h
 split at h
 · injection h with h
   subst h
   decide
 · exact aHi h
theorem aGc {s:List UInt8}:∀ {f k:Nat} {l:List (Nat×TR)},gZ s f k = .ok l→l.length≤f
 | 0,k,l,h=>by injection h with h;subst h;exact aH _
 | f+1,k,l,h=>by
   unfold gZ at h
   split at h
   · split at h
     · split at h
       · rename_i l2 hl
         injection h with h
         subst h
         have:=aGc hl
         simp only [aB]
         omega
       · cases h
     · cases h
   · injection h with h;subst h;exact Nat.zero_le _
theorem vU {s:List UInt8} {l:List (Nat×TR)} (h:iP s = .ok l):l.length≤16385∧s.length≤16384:=by
 unfold iP at h
 split at h
 · cases h
 · have:=aGc h
   omega
open Go.Sy in
set_option maxRecDepth 100000 in
theorem oZ (s:List UInt8) (w:World):Calls Tryz.prog 5 #[nT s] w fun e w'=>Below w.heap.size w w'∧(match eW s with
   | some p=>∃ ds:List Value,e = .returned (.tuple #[.agg ds.toArray,.agg #[nI 0,nI 0]])∧PgAt (dC w w') w' p ds
   | none=>∃ ee pp:Int,¬ ee=0∧e = .returned (.tuple #[.agg #[.slice none 0 0,.slice none 0 0,.slice none 0 0],.agg #[nI ee,nI pp]])):=by
 refine eN [nT s] Tryz.func5 (fun γ0 hγ0=>?_)
 refine rk ?_
 cases hL:iP s with
 | error q=>
   have hq:=aP1 hL
   have hps:eW s=none:=by unfold eW;rw [hL]
   refine gX [nT s] (.tuple #[.slice none 0 0,.agg #[nI q.1,nI (q.2:Nat)]]) (fun W hk=>(y6 s W).mono fun e w' ⟨h1,h2⟩=>by rw [hL] at h2;exact ⟨h2,h1⟩) (rk ?_)
   refine gK true (b:=(!intEq q.1 0)) (by rw [lC hq];rfl) (rs [] 1 0 ?_)
   refine iT (Keep (·<w.heap.size) w) cP (.take 0 (.alt (.run 1 (.run 2 .done)) (.run 2 (.run 1 .done)))) 3 (by kernel_rfl) ?_
   refine fI [] 1 (Bs:=(·<w.heap.size)) (ws:=w) (by kernel_rfl) (fun _ h=>h) (fun q hq=>by cases hq) ?_
   refine aFm (by kernel_rfl) ?_ ?_
   all_goals
    refine pR (Keep (·<w.heap.size) w) (fun _ h=>h) ?_
    refine rk ?_
    refine pR (Keep (·<w.heap.size) w) (fun _ h=>h) ?_
    refine rk ?_
    refine lO (by kernel_rfl) ?_ (Keep (·<w.heap.size) w) (by kernel_rfl) (fun _ h=>h)
    refine rs [] 60 2 ?_
    exact gR (.tuple #[.agg #[.slice none 0 0,.slice none 0 0,.slice none 0 0],.agg #[nI q.1,nI (q.2:Nat)]]) (fun W hk=>⟨hk.below,by rw [hps];exact ⟨_,_,hq,rfl⟩⟩)
 | ok l=>
   have hps:eW s=(pgK (l.map (jB s))).map (·.1):=by unfold eW;rw [hL]
   have hll:=vU hL
   refine iR (bV _ _) [nT s] (Pr:=fun W r W'=>∃ x,r = .tuple #[x,.agg #[nI 0,nI 0]]∧W'.ownsRow W.heap.size 44 5 x l.length (eT s l)) (by kernel_rfl) (by kernel_rfl) (by kernel_rfl) (fun W hk=>(y6 s W).mono fun e w' ⟨h1,h2⟩=>by
    rw [hL] at h2
    obtain ⟨x,h3,h4⟩:=h2
    exact ⟨_,h3,⟨x,rfl,h4⟩,h1⟩) ?_
   rintro W v w1 B1 hkW ⟨x,rfl,hown⟩ hbl hk1 hB1 hBn1 hlt1
   obtain ⟨a,cap,rfl,hcap,hsl⟩:=SlAt.of_own (F:=dC W w1) hown (fun k h1 h2=>⟨h1,h2⟩)
   refine rs [5] 60 1 ?_
   refine gG 20 (gz+2) 61 [.slice a l.length cap,nI ((str s).size:Nat),nI 0,nI 0] (fun b w2 B2 hk2 hB2 hBb hnb hlt2 hcl2=>?_)
   refine rs [21] 60 0 ?_
   refine gG 5 (gz+3) 59 [nP b] (fun kr w3 B3 hk3 hB3 hBr hnr hlt3 hcl3=>?_)
   refine gG 2 gz 27 [.slice none 0 0,.slice none 0 0,.slice none 0 0] (fun kp w4 B4 hk4 hB4 hBp hnp hlt4 hcl4=>?_)
   refine rk ?_
   have hk14:Keep B1 w1 w4:=hk2.trans ((hk3.mono hB2).trans (hk4.mono fun k g=>hB3 k (hB2 k g)))
   have hB14:∀ k,B1 k→B4 k:=fun k g=>hB4 k (hB3 k (hB2 k g))
   have hN1:∀ k,dC W w1 k→B1 k:=fun k g=>hBn1 k g.1 g.2
   have hRd:RdAt (dC W w1) w4 b ⟨l.map (jB s),((str s).size:Nat),0,0⟩:=
    ⟨a,l.length,cap,eT s l,(hk4.block b (hB3 b hBb)).trans ((hk3.block b hBb).trans hcl2),by simp,hcap,by have:=hll.1;omega,hsl.keep (hk14.mono hN1),aJh s l,fun h=>hnb (hN1 b h),fun t ht=>by
     obtain ⟨p,hp,rfl⟩:=List.mem_map.1 ht
     show ((s.drop p.1).take p.2.len).length≤16384
     have:=hll.2
     rw [aT,bI]
     omega⟩
   have hcr:w4.heap[kr]?=_:=(hk4.block kr hBr).trans hcl3
   have hpb:¬ kp=b:=fun e=>hnp (e ▸ hB3 b hBb)
   have hrb:¬ kr=b:=fun e=>hnr (e ▸ hBb)
   have hF4:∀ k,dC W w1 k→k<w4.heap.size:=fun k g=>aE g.2 hk14.size
   have hbl4:=hRd.lt
   have hpl4:kp<w4.heap.size:=(Array.getElem?_eq_some_iff.1 hcl4).1
   refine aH7 (bV _ _) [.func (.func 14) #[] #[nP kr,nP kp]] (fun k=>k=b∨k=kp) (Pr:=fun V v V'=>match pgK (l.map (jB s)) with
     | some (p,_)=>v = .agg #[nI 0,nI 0]∧∃ ds:List Value,V'.heap[kp]?=some (.cells ds.toArray 27 (0,0))∧PgAt (dC V V') V' p ds
     | none=>V'.heap[kp]?=some (.cells [.slice none 0 0,.slice none 0 0,.slice none 0 0].toArray 27 (0,0))∧∃ ee pp:Int,¬ ee=0∧v = .agg #[nI ee,nI pp]) (by kernel_rfl) (by kernel_rfl) (by kernel_rfl) (fun k e=>e.elim (fun e=>e ▸ hB4 b (hB3 b hBb)) (fun e=>e ▸ hBp)) (fun V hk=>(aLb kr kp b ⟨l.map (jB s),((str s).size:Nat),0,0⟩ V (fun k g=>aE (hF4 k g) hk.size) (hRd.keepB (fun k g=>hB14 k (hN1 k g)) (hB4 b (hB3 b hBb)) hk) rfl ((hk.block kr (hB4 kr hBr)).trans hcr) ((hk.block kp hBp).trans hcl4) hpb hrb).mono fun e w' ⟨h1,h2⟩=>by
    split at h2
    · rename_i p ts hp
      obtain ⟨h3,ds,h4,h5⟩:=h2
      exact ⟨_,h3,by rw [hp];exact ⟨rfl,ds,h4,h5⟩,h1⟩
    · rename_i hp
      obtain ⟨h5,ee,pp,h3,h4⟩:=h2
      exact ⟨_,h4,by rw [hp];exact ⟨h5,ee,pp,h3,rfl⟩,h1⟩) ?_
   intro V v w5 B5 hkV hPr hkk hk5 hB5 hBn5 hlt5
   have hwk:Keep (·<w.heap.size) w w4:=hk1.trans (hk14.mono hB1)
   have hwb:∀ k,k<w.heap.size→¬ (k=b∨k=kp):=fun k g e=>by
    rcases e with e | e
    · exact hnb (e ▸ hB1 k g)
    · exact hnp (e ▸ hB3 k (hB2 k (hB1 k g)))
   have hw5:Keep (·<w.heap.size) w w5:=hwk.trans (hk5.mono fun k g=>⟨hB14 k (hB1 k g),hwb k g⟩)
   have hw5B:∀ k,k<w.heap.size→B5 k∧¬ k=kp:=fun k g=>⟨hB5 k (hB14 k (hB1 k g)),fun e=>hwb k g (.inr e)⟩
   rcases hP:pgK (l.map (jB s)) with _ | ⟨p,ts⟩
   ·
    rw [hP] at hPr hps
    obtain ⟨hcl5,ee,pp,hee,rfl⟩:=hPr
    refine aGz 2 kp 27 3 [.slice none 0 0,.slice none 0 0,.slice none 0 0] (by kernel_rfl) hcl5 (hB5 kp hBp) rfl (by kernel_rfl) ?_
    refine rk ?_
    refine gK true (b:=(!intEq ee 0)) (by rw [lC hee];rfl) (rs [] 5 0 ?_)
    refine iT (fun _=>True) cP (.alt (.run 0 (.alt (.run 1 (.run 2 .done)) (.run 2 (.run 1 .done)))) (.run 1 (.run 0 (.run 2 .done)))) 3 (by kernel_rfl) ?_
    refine aFm (by kernel_rfl) ?_ ?_
    ·
     refine pR (fun _=>True) (fun _ _=>trivial) ?_
     refine rk ?_
     refine aFm (by kernel_rfl) ?_ ?_
     all_goals
      refine pR (fun _=>True) (fun _ _=>trivial) ?_
      refine rk ?_
      refine pR (fun _=>True) (fun _ _=>trivial) ?_
      refine rk ?_
      refine lO (by kernel_rfl) ?_ (fun _=>True) (by kernel_rfl) (fun _ _=>trivial)
      refine rs [] 60 2 ?_
      exact gR (.tuple #[.agg #[.slice none 0 0,.slice none 0 0,.slice none 0 0],.agg #[nI ee,nI pp]]) (fun W2 hk=>⟨(hw5.trans (hk.mono hw5B)).below,by rw [hps];exact ⟨_,_,hee,rfl⟩⟩)
    ·
     refine pR (fun _=>True) (fun _ _=>trivial) ?_
     refine rk ?_
     refine pR (fun _=>True) (fun _ _=>trivial) ?_
     refine rk ?_
     refine pR (fun _=>True) (fun _ _=>trivial) ?_
     refine rk ?_
     refine lO (by kernel_rfl) ?_ (fun _=>True) (by kernel_rfl) (fun _ _=>trivial)
     refine rs [] 60 2 ?_
     exact gR (.tuple #[.agg #[.slice none 0 0,.slice none 0 0,.slice none 0 0],.agg #[nI ee,nI pp]]) (fun W2 hk=>⟨(hw5.trans (hk.mono hw5B)).below,by rw [hps];exact ⟨_,_,hee,rfl⟩⟩)
   ·
    rw [hP] at hPr hps
    obtain ⟨rfl,ds,hcl5,hpg⟩:=hPr
    have hpg0:=hpg
    obtain ⟨pa,pc,px,pb,pd,py,pe,pf,pz,rfl,_⟩:=hpg0
    refine aGz 2 kp 27 3 [.slice pa p.shared.length pc,.slice pb p.mutexes.length pd,.slice pe p.threads.length pf] (by kernel_rfl) hcl5 (hB5 kp hBp) rfl (by kernel_rfl) ?_
    refine rs [] 60 3 ?_
    exact gR (.tuple #[.agg #[.slice pa p.shared.length pc,.slice pb p.mutexes.length pd,.slice pe p.threads.length pf],.agg #[nI 0,nI 0]]) (fun W2 hk=>⟨(hw5.trans (hk.mono hw5B)).below,by
     rw [hps]
     have hkn:Keep (dC V w5) w5 W2:=hk.mono fun k g=>⟨hBn5 k g.1 g.2,fun e=>by have:=g.1;have:=hkV.size;omega⟩
     exact ⟨_,rfl,hpg.keep hkn (fun k g=>⟨bC hwk.size (bC hkV.size g.1),aE g.2 hk.size⟩)⟩⟩)
end
section
def np (t:Tok):Tok:=⟨t.kind,t.text,0,t.ty,t.bits⟩
def mp {α:Type} (o:Option (α×List Tok)):Option (α×List Tok):=o.map fun p=>(p.1,p.2.map np)
theorem aTt {α:Type}:mp (none:Option (α×List Tok))=none:=rfl
theorem cH (s:List UInt8) (ts:List Tok):bX s (ts.map np)=(bX s ts).map (List.map np):=by
 cases ts with
 | nil=>rfl
 | cons t ts=>
   show (if t.text=s then some (ts.map np) else none)=_
   simp only [bX]
   split <;> rfl
theorem nK (ts:List Tok):eB (ts.map np)=mp (eB ts):=by
 cases ts with
 | nil=>rfl
 | cons t ts=>
   show (if b7 t.text=true then some (t.text,ts.map np) else none)=_
   simp only [eB]
   split <;> rfl
theorem aF7 (ts:List Tok):dN (ts.map np)=mp (dN ts):=by
 cases ts with
 | nil=>rfl
 | cons t ts=>
   show (jZ t).map (fun v=>(v,ts.map np))=_
   simp only [dN]
   cases jZ t <;> rfl
theorem aR9:∀ n:Nat,(∀ l k ts,eK n l k (ts.map np)=mp (eK n l k ts))∧(∀ l k e ts,eM n l k e (ts.map np)=mp (eM n l k e ts))∧(∀ k ts,eI n k (ts.map np)=mp (eI n k ts))∧(∀ k ts,e7 n k (ts.map np)=mp (e7 n k ts))∧(∀ k ts,gY n k (ts.map np)=mp (gY n k ts))
 | 0=>⟨fun _ _ _=>by simp only [eK];rfl,fun _ _ _ _=>by simp only [eM];rfl,fun _ _=>by simp only [eI];rfl,fun _ _=>by simp only [e7];rfl,fun _ _=>by simp only [gY];rfl⟩
 | n+1=>by
   obtain ⟨hb,hl,hu,hp,hc⟩:=aR9 n
   refine ⟨fun l k ts=>?_,fun l k e ts=>?_,fun k ts=>?_,fun k ts=>?_,fun k ts=>?_⟩
   · simp only [eK]
     split
     · exact hu _ _
     rw [hb]
     cases eK n (l+1) k ts with
     | none=>rfl
     | some p=>exact hl _ _ _ _
   · cases ts with
     | nil=>simp only [eM,List.map_nil];rfl
     | cons t us=>
       simp only [eM,List.map_cons]
       show (if t.kind=4∧(sgK t.text).2=(l:Int) then _ else _)=_
       split
       · rw [hb]
         cases eK n (l+1) k us with
         | none=>rfl
         | some p=>
           show (match dY (.mk (sgK t.text).1 0 0 [] [e,p.1]) with
            | none=>none
            | some y=>if 5≤(sgK t.text).1∧(sgK t.text).1≤10 then some (y,p.2.map np) else eM n l k y (p.2.map np))=mp (match dY (.mk (sgK t.text).1 0 0 [] [e,p.1]) with
            | none=>none
            | some y=>if 5≤(sgK t.text).1∧(sgK t.text).1≤10 then some (y,p.2) else eM n l k y p.2)
           cases dY (.mk (sgK t.text).1 0 0 [] [e,p.1]) with
           | none=>rfl
           | some y=>
             simp only []
             split
             · rfl
             · exact hl _ _ _ _
       · rfl
   · simp only [eI]
     rw [cH,cH]
     cases bX [45] ts with
     | some us=>
       simp only [aL]
       split
       · rw [hu]
         cases eI n (k+1) us with
         | none=>rfl
         | some p=>
           show (dY (.mk 16 0 0 [] [p.1])).map (fun y=>(y,p.2.map np))=mp ((dY (.mk 16 0 0 [] [p.1])).map fun y=>(y,p.2))
           cases dY (.mk 16 0 0 [] [p.1]) <;> rfl
       · rfl
     | none=>
       simp only [Option.map_none]
       cases bX [33] ts with
       | some us=>
         simp only [aL]
         split
         · rw [hu]
           cases eI n (k+1) us with
           | none=>rfl
           | some p=>
             show (dY (.mk 17 0 0 [] [p.1])).map (fun y=>(y,p.2.map np))=mp ((dY (.mk 17 0 0 [] [p.1])).map fun y=>(y,p.2))
             cases dY (.mk 17 0 0 [] [p.1]) <;> rfl
         · rfl
       | none=>exact hp _ _
   · have conv:∀ (op:Int) (us:List Tok),(if k+1≤32 then (match bX [40] (us.map np) with
        | none=>none
        | some vs=>match gY n (k+1) vs with
          | none=>none
          | some (x,xs)=>(dY (.mk op 0 0 [] [x])).map fun y=>(y,xs)) else none)=mp (if k+1≤32 then (match bX [40] us with
        | none=>none
        | some vs=>match gY n (k+1) vs with
          | none=>none
          | some (x,xs)=>(dY (.mk op 0 0 [] [x])).map fun y=>(y,xs)) else none):=by
      intro op us
      split
      · rw [cH]
        cases bX [40] us with
        | none=>rfl
        | some vs=>
          simp only [aL]
          rw [hc]
          cases gY n (k+1) vs with
          | none=>rfl
          | some p=>
            show (dY (.mk op 0 0 [] [p.1])).map (fun y=>(y,p.2.map np))=mp ((dY (.mk op 0 0 [] [p.1])).map fun y=>(y,p.2))
            cases dY (.mk op 0 0 [] [p.1]) <;> rfl
      · rfl
     simp only [e7]
     rw [aF7,cH,cH,cH,nK]
     cases dN ts with
     | some p=>rfl
     | none=>
       simp only [aTt]
       cases bX [40] ts with
       | some us=>
         simp only [aL]
         split
         · exact hc _ _
         · rfl
       | none=>
         simp only [Option.map_none]
         cases bX [105,110,116] ts with
         | some us=>exact conv 18 us
         | none=>
           simp only [Option.map_none]
           cases bX [114,101,97,108] ts with
           | some us=>exact conv 19 us
           | none=>
             simp only [Option.map_none]
             cases eB ts <;> rfl
   · simp only [gY]
     rw [hb]
     cases eK n 0 k ts with
     | none=>rfl
     | some p=>
       show (bX [41] (p.2.map np)).map (fun vs=>(p.1,vs))=mp ((bX [41] p.2).map fun vs=>(p.1,vs))
       rw [cH]
       cases bX [41] p.2 <;> rfl
theorem aFq (ts:List Tok):whK (ts.map np)=mp (whK ts):=by
 unfold whK
 rw [List.length_map]
 exact (aR9 _).1 _ _ _
theorem aU1 (t:Int) (ts:List Tok):fQ t (ts.map np)=mp (fQ t ts):=by
 have nm:∀ us:List Tok,kZ (us.map np)=kZ us:=fun us=>by
  unfold kZ
  rw [cH,cH,cH]
  simp
 simp only [fQ]
 rw [cH,aF7]
 cases bX [45] ts with
 | some us=>
   simp only [aL,nm]
   split
   · rw [aF7]
     cases dN us with
     | none=>rfl
     | some p=>
       show (if p.1.1=t then some (mF true t p.1.2,p.2.map np) else none)=mp (if p.1.1=t then some (mF true t p.1.2,p.2) else none)
       split <;> rfl
   · rfl
 | none=>
   simp only [Option.map_none]
   cases dN ts with
   | none=>rfl
   | some p=>
     show (if p.1.1=t then some (p.1.2,p.2.map np) else none)=mp (if p.1.1=t then some (p.1.2,p.2) else none)
     split <;> rfl
theorem aU6 (ts:List Tok):fR (ts.map np)=mp (fR ts):=by
 simp only [fR]
 rw [cH,cH,cH]
 cases bX [105,110,116] ts with
 | some us=>rfl
 | none=>
   cases bX [98,111,111,108] ts with
   | some us=>rfl
   | none=>cases bX [114,101,97,108] ts <;> rfl
theorem aOl (ts:List Tok):eJ (ts.map np)=mp (eJ ts):=by
 simp only [eJ]
 rw [nK]
 cases eB ts with
 | none=>rfl
 | some p=>
   simp only [mp,aL]
   rw [aU6]
   cases fR p.2 with
   | none=>rfl
   | some q=>
     simp only [mp,aL]
     rw [cH]
     cases bX [61] q.2 with
     | none=>
       simp only [Option.map_none]
       rw [cH]
       cases bX [59] q.2 <;> rfl
     | some us=>
       simp only [aL]
       rw [aU1]
       cases fQ q.1 us with
       | none=>rfl
       | some v=>
         simp only [mp,aL]
         rw [cH]
         cases bX [59] v.2 <;> rfl
theorem aUs (ts:List Tok):fG (ts.map np)=mp (fG ts):=by
 simp only [fG]
 rw [cH,cH,cH,cH,nK]
 cases bX [108,111,99,107] ts with
 | some us=>simp only [aL,nK];cases eB us <;> rfl
 | none=>
   simp only [Option.map_none]
   cases bX [117,110,108,111,99,107] ts with
   | some us=>simp only [aL,nK];cases eB us <;> rfl
   | none=>
     simp only [Option.map_none]
     cases bX [97,115,115,101,114,116] ts with
     | some us=>simp only [aL,aFq];cases whK us <;> rfl
     | none=>
       simp only [Option.map_none]
       cases bX [115,107,105,112] ts with
       | some us=>rfl
       | none=>
         simp only [Option.map_none]
         cases eB ts with
         | none=>rfl
         | some p=>
           simp only [mp,aL]
           rw [cH]
           cases bX [61] p.2 with
           | none=>rfl
           | some vs=>simp only [aL,aFq];cases whK vs <;> rfl
theorem aR3:∀ n:Nat,(∀ d ts,fN n d (ts.map np)=mp (fN n d ts))∧(∀ d ts,d5 n d (ts.map np)=mp (d5 n d ts))∧(∀ d ts,stK n d (ts.map np)=mp (stK n d ts))
 | 0=>⟨fun _ _=>by simp only [fN];rfl,fun _ _=>by simp only [d5];rfl,fun _ _=>by simp only [stK];rfl⟩
 | n+1=>by
   obtain ⟨hb,hl,hs⟩:=aR3 n
   refine ⟨fun d ts=>?_,fun d ts=>?_,fun d ts=>?_⟩
   · simp only [fN]
     rw [cH]
     cases bX [123] ts with
     | none=>rfl
     | some us=>
       simp only [aL]
       split
       · rw [hl]
         cases d5 n (d+1) us with
         | none=>rfl
         | some p=>
           simp only [mp,aL]
           rw [cH]
           cases bX [125] p.2 <;> rfl
       · rfl
   · simp only [d5]
     rw [cH,hs]
     have e:((ts.map np=[])∨((bX [125] ts).map (List.map np)).isSome=true)=(ts=[]∨(bX [125] ts).isSome=true):=by
      rw [List.map_eq_nil_iff,Option.isSome_map]
     by_cases hc:ts=[]∨(bX [125] ts).isSome=true
     · rw [if_pos (by rw [e];exact hc),if_pos hc];rfl
     rw [if_neg (by rw [e];exact hc),if_neg hc]
     cases stK n d ts with
     | none=>rfl
     | some p=>
       simp only [mp,aL]
       rw [hl]
       cases d5 n d p.2 <;> rfl
   · simp only [stK]
     rw [cH,cH,aUs]
     cases bX [105,102] ts with
     | some us=>
       simp only [aL]
       rw [aFq]
       cases whK us with
       | none=>rfl
       | some p=>
         simp only [mp,aL]
         rw [hb]
         cases fN n d p.2 with
         | none=>rfl
         | some q=>
           simp only [mp,aL]
           rw [cH]
           cases bX [101,108,115,101] q.2 with
           | none=>rfl
           | some ys=>
             simp only [aL]
             rw [hb]
             cases fN n d ys <;> rfl
     | none=>
       simp only [Option.map_none]
       cases bX [119,104,105,108,101] ts with
       | some us=>
         simp only [aL]
         rw [aFq]
         cases whK us with
         | none=>rfl
         | some p=>
           simp only [mp,aL]
           rw [hb]
           cases fN n d p.2 <;> rfl
       | none=>
         simp only [Option.map_none]
         cases fG ts with
         | none=>rfl
         | some p=>
           simp only [mp,aL]
           rw [cH]
           cases bX [59] p.2 <;> rfl
theorem aO2:∀ (n:Nat) (ts:List Tok),eV n (ts.map np)=mp (eV n ts)
 | 0,_=>by simp only [eV];rfl
 | n+1,ts=>by
   simp only [eV]
   rw [cH]
   cases bX [108,111,99,97,108] ts with
   | none=>rfl
   | some us=>
     simp only [aL]
     rw [aOl]
     cases eJ us with
     | none=>rfl
     | some p=>
       simp only [mp,aL]
       rw [aO2 n]
       cases eV n p.2 <;> rfl
theorem aU8 (ts:List Tok):iY (ts.map np)=mp (iY ts):=by
 simp only [iY]
 rw [cH]
 cases bX [116,104,114,101,97,100] ts with
 | none=>rfl
 | some us=>
   simp only [aL]
   rw [nK]
   cases eB us with
   | none=>rfl
   | some p=>
     simp only [mp,aL]
     rw [cH]
     cases bX [123] p.2 with
     | none=>rfl
     | some xs=>
       simp only [aL]
       rw [aO2,List.length_map]
       cases eV (xs.length+1) xs with
       | none=>rfl
       | some q=>
         simp only [mp,aL]
         rw [(aR3 _).2.1,List.length_map]
         cases d5 (4*q.2.length+2) 0 q.2 with
         | none=>rfl
         | some r=>
           simp only [mp,aL]
           rw [cH]
           cases bX [125] r.2 <;> rfl
theorem aGh:∀ (n:Nat) (ts:List Tok),dZ n (ts.map np)=mp (dZ n ts)
 | 0,_=>by simp only [dZ];rfl
 | n+1,ts=>by
   simp only [dZ]
   rw [cH,cH]
   cases bX [115,104,97,114,101,100] ts with
   | some us=>
     simp only [aL]
     rw [aOl]
     cases eJ us with
     | none=>rfl
     | some p=>
       simp only [mp,aL]
       rw [aGh n]
       cases dZ n p.2 <;> rfl
   | none=>
     simp only [Option.map_none]
     cases bX [109,117,116,101,120] ts with
     | none=>rfl
     | some us=>
       simp only [aL]
       rw [nK]
       cases eB us with
       | none=>rfl
       | some p=>
         simp only [mp,aL]
         rw [cH]
         cases bX [59] p.2 with
         | none=>rfl
         | some xs=>
           simp only [aL]
           rw [aGh n]
           cases dZ n xs <;> rfl
theorem aN5:∀ (n:Nat) (ts:List Tok),eZ n (ts.map np)=mp (eZ n ts)
 | 0,_=>by simp only [eZ];rfl
 | n+1,ts=>by
   simp only [eZ]
   have e:(ts.map np=[])=(ts=[]):=by rw [List.map_eq_nil_iff]
   by_cases hc:ts=[]
   · rw [if_pos (by rw [e];exact hc),if_pos hc];rfl
   rw [if_neg (by rw [e];exact hc),if_neg hc,aU8]
   cases iY ts with
   | none=>rfl
   | some p=>
     simp only [mp,aL]
     rw [aN5 n]
     cases eZ n p.2 <;> rfl
theorem aSb (ts:List Tok):pgK (ts.map np)=mp (pgK ts):=by
 simp only [pgK]
 rw [aGh,List.length_map]
 cases dZ (ts.length+1) ts with
 | none=>rfl
 | some p=>
   simp only [mp,aL]
   rw [aN5,List.length_map]
   cases eZ (p.2.length+1) p.2 <;> rfl
theorem aJn {ts us:List Tok} (h:ts.map np=us.map np):(pgK ts).map (·.1)=(pgK us).map (·.1):=by
 have h1:=aSb ts
 have h2:=aSb us
 rw [h,h2] at h1
 cases hp:pgK us with
 | none=>
   rw [hp] at h1
   cases hq:pgK ts with
   | none=>rfl
   | some q=>rw [hq] at h1;cases h1
 | some p=>
   rw [hp] at h1
   cases hq:pgK ts with
   | none=>rw [hq] at h1;cases h1
   | some q=>
     rw [hq] at h1
     simp only [mp,aL] at h1
     injection h1 with h1
     injection h1 with h1 _
     simp only [aL]
     rw [h1]
end
section
theorem aD3 (s:List UInt8):∀ (l:List (Nat×TR)) (at_:Nat) (pre:List UInt8),pP s at_ l→(xO pre.length l).map (fun p=>np (jB (pre++cB s l) p))=l.map (fun p=>np (jB s p))
 | [],_,_,_=>rfl
 | (k,R)::l,at_,pre,h=>by
   obtain ⟨h1,hk,h3,hR,he,hc⟩:=h
   obtain ⟨c,t,hT,hlen⟩:=aAx hk hR he
   have hTl:((s.drop k).take R.len).length=R.len:=by rw [hT];simpa using hlen
   have ih:=aD3 s l (k+R.len) (pre++((s.drop k).take R.len++[32])) hc
   have e1:(pre++((s.drop k).take R.len++[32])).length=pre.length+R.len+1:=by
    rw [aA,aA,hTl,List.length_singleton];omega
   have e2:(pre++((s.drop k).take R.len++[32]))++cB s l=pre++cB s ((k,R)::l):=by rw [k8];simp
   rw [e1,e2] at ih
   show np (jB (pre++cB s ((k,R)::l)) (pre.length,R))::(xO (pre.length+R.len+1) l).map _=np (jB s (k,R))::_
   rw [ih]
   congr 1
   unfold jB np
   simp only
   rw [List.drop_left,k8,List.take_append_of_le_length (by omega),List.take_of_length_le (by omega)]
theorem xJ {s:List UInt8} {l:List (Nat×TR)} (hL:iP s = .ok l) (hl:¬ 16384<(cB s l).length):eW (cB s l)=eW s:=by
 have hc:pP s 0 l:=by
  unfold iP at hL
  split at hL
  · cases hL
  · exact yG s (s.length+1) 0 l (Nat.zero_le _) (by have:=(lK (s:=s) (Nat.zero_le _)).1;omega) hL
 have hj:=aD3 s l 0 [] hc
 unfold eW
 rw [hL,aL9 hc hl]
 simp only
 exact aJn (by rw [List.map_map,List.map_map];exact hj)
end
section
noncomputable def f7 (b:Nat):Option (List UInt8):=open Classical in if h:∃ t,PSpec (toN b) t 0 then some h.choose else none
theorem vQ {b:Nat} {t:List UInt8} (h:PSpec (toN b) t 0):f7 b=some t:=by
 unfold f7
 have hx:∃ t,PSpec (toN b) t 0:=⟨t,h⟩
 rw [dif_pos hx]
 exact congrArg some (hx.choose_spec.uniq h).1
theorem aGo {b:Nat} {t:List UInt8} {z:Int} (h:PSpec (toN b) t z) (hz:z≠0):f7 b=none:=by
 unfold f7
 rw [dif_neg]
 rintro ⟨s,hs⟩
 exact hz (hs.uniq h).2.symm
def nanBits:Int:=9221120237041090560
def kE:Int:=9218868437227405312
def b8:Int:=9223372036854775808
noncomputable def dA (ty bits:Int):Option (List UInt8):=
 if ty=1 then (if bits<b8 then some (Lib.decDigits bits.toNat) else none)
 else if ty=2 then (if bits=1 then some [116,114,117,101] else if bits=0 then some [102,97,108,115,101] else none)
 else if ty=3 then (if bits=nanBits then some [110,97,110] else if bits=kE then some [105,110,102] else if bits<b8 then f7 bits.toNat else none)
 else none
noncomputable def eG (ty bits:Int):Option (List UInt8):=
 if ty=1 then (if bits<b8 then some (Lib.decDigits bits.toNat) else if bits=b8 then none else some (45::Lib.decDigits (18446744073709551616 - bits).toNat))
 else if ty=3 then (if bits<b8 then dA 3 bits else if bits - b8=nanBits then none else (dA 3 (bits - b8)).map (45::·))
 else dA ty bits
def jR (op:Int):List UInt8:=
 if op=3 then [124,124] else if op=4 then [38,38] else if op=5 then [61,61] else if op=6 then [33,61] else if op=7 then [60] else if op=8 then [60,61] else if op=9 then [62] else if op=10 then [62,61]
 else if op=11 then [43] else if op=12 then [45] else if op=13 then [42] else if op=14 then [47] else if op=15 then [37] else []
mutual
noncomputable def exT:Ex→Option (List UInt8)
 | .mk op ty bits name kids=>
   if (op≠1∧¬ (ty=0∧bits=0))∨(op≠2∧name≠[]) then none
   else match kF kids with
    | none=>none
    | some ks=>
      if op=1 then (match ks with | []=>dA ty bits | _=>none)
      else if op=2 then (match ks with | []=>if b7 name=true then some name else none | _=>none)
      else if 3≤op∧op≤15 then (match ks with | [a,b]=>some (40::(a++(32::(jR op++(32::(b++[41])))))) | _=>none)
      else if op=16 then (match ks with | [a]=>some (45::a) | _=>none)
      else if op=17 then (match ks with | [a]=>some (33::a) | _=>none)
      else if op=18 then (match ks with | [a]=>some ([105,110,116,40]++(a++[41])) | _=>none)
      else if op=19 then (match ks with | [a]=>some ([114,101,97,108,40]++(a++[41])) | _=>none)
      else none
noncomputable def kF:List Ex→Option (List (List UInt8))
 | []=>some []
 | e::l=>match exT e with
   | none=>none
   | some t=>match kF l with
     | none=>none
     | some ts=>some (t::ts)
end
noncomputable def lY (e:Ex):Option (List UInt8):=if hgt e≤32 then exT e else none
def iS:Ex→Bool
 | .mk op ty bits name kids=>decide (op=0∧ty=0∧bits=0∧name=[]∧kids.length=0)
def cW (deep:Nat):List UInt8:=(List.replicate (deep+1) [32,32]).flatten
mutual
noncomputable def stT (deep:Nat):St→Option (List UInt8)
 | .mk kind name e body els=>
   if kind=1 then (if b7 name=true∧body.length=0∧els.length=0 then (lY e).map fun t=>cW deep++(name++([32,61,32]++(t++[59,10]))) else none)
   else if kind=2 then (if b7 name=true∧iS e=true∧body.length=0∧els.length=0 then some (cW deep++([108,111,99,107,32]++(name++[59,10]))) else none)
   else if kind=3 then (if b7 name=true∧iS e=true∧body.length=0∧els.length=0 then some (cW deep++([117,110,108,111,99,107,32]++(name++[59,10]))) else none)
   else if kind=4 then (if name=[]∧body.length=0∧els.length=0 then (lY e).map fun t=>cW deep++([97,115,115,101,114,116,32]++(t++[59,10])) else none)
   else if kind=7 then (if name=[]∧iS e=true∧body.length=0∧els.length=0 then some (cW deep++[115,107,105,112,59,10]) else none)
   else if kind=5∨kind=6 then
    match dQ (deep+1) body,dQ (deep+1) els,lY e with
    | some b,some l,some t=>
      if name≠[]∨(kind=6∧0<els.length) then none
      else if kind=6 then some (cW deep++([119,104,105,108,101,32]++(t++([32,123,10]++(b++(cW deep++[125,10]))))))
      else if 0<els.length then some (cW deep++([105,102,32]++(t++([32,123,10]++(b++(cW deep++([125,32,101,108,115,101,32,123,10]++(l++(cW deep++[125,10])))))))))
      else some (cW deep++([105,102,32]++(t++([32,123,10]++(b++(cW deep++[125,10]))))))
    | _,_,_=>none
   else none
noncomputable def dQ (deep:Nat):List St→Option (List UInt8)
 | []=>some []
 | s::l=>if 32<deep then none else match stT deep s with
   | none=>none
   | some t=>match dQ deep l with
     | none=>none
     | some ts=>some (t++ts)
end
def fL (ty:Int):List UInt8:=if ty=2 then [98,111,111,108] else if ty=3 then [114,101,97,108] else [105,110,116]
noncomputable def vrT (word:List UInt8) (v:Vr):Option (List UInt8):=
 if b7 v.name=true then (eG v.ty v.bits).map fun t=>word++(32::(v.name++(32::(fL v.ty++([32,61,32]++(t++[59,10]))))) ) else none
def cE {α:Type} (f:α→Option (List UInt8)):List α→Option (List UInt8)
 | []=>some []
 | x::l=>match f x with
   | none=>none
   | some t=>match cE f l with
     | none=>none
     | some ts=>some (t++ts)
def mxT (m:List UInt8):Option (List UInt8):=if b7 m=true then some ([109,117,116,101,120,32]++(m++[59,10])) else none
noncomputable def thT (t:Th):Option (List UInt8):=
 match cE (vrT [32,32,108,111,99,97,108]) t.locals,dQ 0 t.body with
 | some a,some b=>if b7 t.name=true then some ([116,104,114,101,97,100,32]++(t.name++([32,123,10]++(a++(b++[125,10]))))) else none
 | _,_=>none
noncomputable def pgT (p:Pg):Option (List UInt8):=
 match cE (vrT [115,104,97,114,101,100]) p.shared,cE mxT p.mutexes,cE thT p.threads with
 | some a,some b,some c=>some (a++(b++c))
 | _,_,_=>none
noncomputable def oW (p:Pg):List UInt8:=match pgT p with
 | none=>[]
 | some t=>if 16384<t.length then [] else t
noncomputable def kQ (p:Pg):Int:=match pgT p with
 | none=>2
 | some t=>if 16384<t.length then 3 else 0
theorem aAl {α:Type} (f:α→Option (List UInt8)):∀ (l r:List α),cE f (l++r)=match cE f l,cE f r with
  | some a,some b=>some (a++b)
  | _,_=>none
 | [],r=>by
   simp only [bR,cE]
   cases cE f r <;> simp
 | x::l,r=>by
   simp only [bO,cE]
   rw [aAl f l r]
   cases f x with
   | none=>rfl
   | some a=>
     cases cE f l with
     | none=>rfl
     | some b=>
       cases cE f r with
       | none=>rfl
       | some c=>simp
theorem aGa (deep:Nat):∀ (l:List St),dQ deep l=if 32<deep∧0<l.length then none else cE (stT deep) l
 | []=>by simp [dQ,cE]
 | s::l=>by
   simp only [dQ,cE]
   rw [aGa deep l]
   by_cases h:32<deep
   · simp [h]
   · simp [h]
theorem qW:∀ {l:List Ex} {ks:List (List UInt8)},kF l=some ks→ks.length=l.length
 | [],ks,h=>by
   simp only [kF,Option.some.injEq] at h
   subst h
   rfl
 | e::l,ks,h=>by
   simp only [kF] at h
   split at h
   · cases h
   split at h
   · cases h
   rename_i h1
   injection h with h
   subst h
   simp [qW h1]
end
section
set_option maxRecDepth 100000
def gW (op:Int):Int:=if op=1∨op=2 then 0 else if 3≤op∧op≤15 then 2 else if 16≤op∧op≤19 then 1 else -1
theorem aRb (op:Int) (w:World):CP 112 #[.int .u8 op] w (.int .i64 (gW op)):=by
 go_enter Tryz.func112,Tryz.ntmps112
 go_wp2
 all_goals
  go_ret
  refine ⟨s8 ?_,rfl⟩
  simp only [gW]
  (try simp only [decide_eq_true_eq,decide_eq_false_iff_not,beq_iff_eq,bne_iff_ne,Bool.not_eq_true,beq_eq_false_iff_ne] at *)
  repeat' split
  all_goals first | omega | simp_all
def fA (op:Int):List UInt8:=if op=16 then [45] else if op=17 then [33] else jR op
open Go.Sy
theorem wY (op:Int) (w:World):CB 105 #[n8 op] w (nT (fA op)):=by
 refine eN [n8 op] Tryz.func105 (fun γ0 hγ0=>?_)
 refine rk ?_
 by_cases h3:op=3
 ·
  refine kz op 3 h3 (rs [] 60 3 ?_)
  refine gR (nT [124,124]) (fun W hk=>⟨?_,hk.below⟩)
  subst h3
  rfl
 refine kw op 3 h3 (rk ?_)
 by_cases h4:op=4
 ·
  refine kz op 4 h4 (rs [] 60 3 ?_)
  refine gR (nT [38,38]) (fun W hk=>⟨?_,hk.below⟩)
  subst h4
  rfl
 refine kw op 4 h4 (rk ?_)
 by_cases h5:op=5
 ·
  refine kz op 5 h5 (rs [] 60 3 ?_)
  refine gR (nT [61,61]) (fun W hk=>⟨?_,hk.below⟩)
  subst h5
  rfl
 refine kw op 5 h5 (rk ?_)
 by_cases h6:op=6
 ·
  refine kz op 6 h6 (rs [] 60 3 ?_)
  refine gR (nT [33,61]) (fun W hk=>⟨?_,hk.below⟩)
  subst h6
  rfl
 refine kw op 6 h6 (rk ?_)
 by_cases h7:op=7
 ·
  refine kz op 7 h7 (rs [] 60 3 ?_)
  refine gR (nT [60]) (fun W hk=>⟨?_,hk.below⟩)
  subst h7
  rfl
 refine kw op 7 h7 (rk ?_)
 by_cases h8:op=8
 ·
  refine kz op 8 h8 (rs [] 60 3 ?_)
  refine gR (nT [60,61]) (fun W hk=>⟨?_,hk.below⟩)
  subst h8
  rfl
 refine kw op 8 h8 (rk ?_)
 by_cases h9:op=9
 ·
  refine kz op 9 h9 (rs [] 60 3 ?_)
  refine gR (nT [62]) (fun W hk=>⟨?_,hk.below⟩)
  subst h9
  rfl
 refine kw op 9 h9 (rk ?_)
 by_cases h10:op=10
 ·
  refine kz op 10 h10 (rs [] 60 3 ?_)
  refine gR (nT [62,61]) (fun W hk=>⟨?_,hk.below⟩)
  subst h10
  rfl
 refine kw op 10 h10 (rk ?_)
 by_cases h11:op=11
 ·
  refine kz op 11 h11 (rs [] 60 3 ?_)
  refine gR (nT [43]) (fun W hk=>⟨?_,hk.below⟩)
  subst h11
  rfl
 refine kw op 11 h11 (rk ?_)
 by_cases h12:op=12
 ·
  refine kz op 12 h12 (rk ?_)
  refine kz op 12 h12 (rs [] 60 3 ?_)
  refine gR (nT [45]) (fun W hk=>⟨?_,hk.below⟩)
  subst h12
  rfl
 refine kw op 12 h12 (rk ?_)
 by_cases h16:op=16
 ·
  refine kz op 16 h16 (rs [] 60 3 ?_)
  refine gR (nT [45]) (fun W hk=>⟨?_,hk.below⟩)
  subst h16
  rfl
 refine kw op 16 h16 (rk ?_)
 by_cases h13:op=13
 ·
  refine kz op 13 h13 (rs [] 60 3 ?_)
  refine gR (nT [42]) (fun W hk=>⟨?_,hk.below⟩)
  subst h13
  rfl
 refine kw op 13 h13 (rk ?_)
 by_cases h14:op=14
 ·
  refine kz op 14 h14 (rs [] 60 3 ?_)
  refine gR (nT [47]) (fun W hk=>⟨?_,hk.below⟩)
  subst h14
  rfl
 refine kw op 14 h14 (rk ?_)
 by_cases h15:op=15
 ·
  refine kz op 15 h15 (rs [] 60 3 ?_)
  refine gR (nT [37]) (fun W hk=>⟨?_,hk.below⟩)
  subst h15
  rfl
 refine kw op 15 h15 (rk ?_)
 by_cases h17:op=17
 ·
  refine kz op 17 h17 (rs [] 60 3 ?_)
  refine gR (nT [33]) (fun W hk=>⟨?_,hk.below⟩)
  subst h17
  rfl
 refine kw op 17 h17 (rk ?_)
 refine gR (nT []) (fun W hk=>⟨?_,hk.below⟩)
 simp [fA,jR,h3,h4,h5,h6,h7,h8,h9,h10,h11,h12,h16,h13,h14,h15,h17]
def aFl (ty:Int):List UInt8:=if ty=1 then [105,110,116] else if ty=2 then [98,111,111,108] else [114,101,97,108]
theorem aNm (ty:Int) (w:World):CB 48 #[n8 ty] w (nT (aFl ty)):=by
 refine eN [n8 ty] Tryz.func48 (fun γ0 hγ0=>?_)
 refine rk ?_
 by_cases h1:ty=1
 ·
  refine kz ty 1 h1 (rs [] 60 3 ?_)
  refine gR (nT [105,110,116]) (fun W hk=>⟨?_,hk.below⟩)
  subst h1
  rfl
 refine kw ty 1 h1 (rk ?_)
 by_cases h2:ty=2
 ·
  refine kz ty 2 h2 (rs [] 60 3 ?_)
  refine gR (nT [98,111,111,108]) (fun W hk=>⟨?_,hk.below⟩)
  subst h2
  rfl
 refine kw ty 2 h2 (rk ?_)
 refine gR (nT [114,101,97,108]) (fun W hk=>⟨?_,hk.below⟩)
 simp [aFl,h1,h2]
end
section
set_option maxRecDepth 100000
theorem aH2 (b:Nat) (hb:b<18446744073709551616) (w:World) (ht:Tab w):
  CB 101 #[.int .u64 (b:Int)] w (.tuple #[.string (str ((f7 b).getD [])),.int .i64 (if (f7 b).isSome then 0 else 2)]):=by
 refine (aKw b hb w ht).mono ?_
 rintro e w' ⟨s,y,rfl,hp,hbl⟩
 refine ⟨?_,hbl⟩
 rcases hp with ⟨h1,h2⟩ | ⟨h1,h2,h3⟩
 · subst h1
   rw [vQ (.inl ⟨rfl,h2⟩)]
   rfl
 · subst h1 h2
   rw [aGo (.inr ⟨rfl,rfl,h3⟩) (by decide)]
   rfl
theorem fD {b:Nat} {t:List UInt8} (h:f7 b=some t):toN b=b∧b<9223372036854775808∧PSpec b t 0:=by
 have hx:PSpec (toN b) t 0:=by
  rcases PSpec.total (toN b) with ⟨s,hs⟩ | hs
  · rw [vQ hs] at h
    injection h with h
    subst h
    exact hs
  · rw [aGo hs (by decide)] at h
    cases h
 have hb:∃ k n,LitIs (toN b) k n:=by
  rcases hx with ⟨_,k,n,h1,_⟩ | ⟨h1,_⟩
  · exact ⟨k,n,h1⟩
  · cases h1
 obtain ⟨k,n,hl⟩:=hb
 obtain ⟨_,h2,h3⟩:=hl.bound
 rcases rJ b with ⟨_,h4⟩ | ⟨_,h4⟩
 · rw [h4] at h3 hx
   exact ⟨h4,h3,hx⟩
 · rw [h4] at h2
   exact absurd h2 (by decide)
noncomputable def lZ (n:Nat):Bool:=decide ((n:Int)=nanBits) || (decide ((n:Int)=kE) || (f7 n).isSome)
theorem aUc {n:Nat} (hn:n<18446744073709551616):(!(Sy.intLt (IntKind.wrap .i64 (n:Int)) 0))=decide (n<9223372036854775808):=by
 rw [Sy.intLt_eq,IntKind.wrap_i64]
 by_cases h:n<9223372036854775808
 · rw [decide_eq_true h,decide_eq_false (by omega)]
   rfl
 · rw [decide_eq_false h,decide_eq_true (by omega)]
   rfl
theorem aNi {n:Nat}:(!(Sy.intLt 1 (n:Int)))=decide (n≤1):=by
 rw [Sy.intLt_eq]
 by_cases h:n≤1
 · rw [decide_eq_true h,decide_eq_false (by omega)]
   rfl
 · rw [decide_eq_false h,decide_eq_true (by omega)]
   rfl
theorem aSq {b:Nat} (h:b<18446744073709551616):(b &&& 9223372036854775807)=b % 9223372036854775808:=by
 have:=Nat.and_two_pow_sub_one_eq_mod b 63
 simpa using this
theorem aQ1 {b:Nat} (h:b<18446744073709551616):Go.bits .andNot .u64 (b:Int) 9223372036854775808=((b % 9223372036854775808:Nat):Int):=by
 have e:(BitVec.ofInt 64 (b:Int) &&& ~~~(BitVec.ofInt 64 9223372036854775808)).toNat=b % 9223372036854775808:=by
  rw [BitVec.toNat_and]
  have h1:(BitVec.ofInt 64 (b:Int)).toNat=b:=by rw [BitVec.toNat_ofInt];omega
  have h2:(~~~(BitVec.ofInt 64 9223372036854775808)).toNat=9223372036854775807:=by decide
  rw [h1,h2,aSq h]
 show IntKind.u64.wrap _=_
 have e3:∀ n:Int,IntKind.u64.wrap n=n % 18446744073709551616:=fun n=>rfl
 rw [e3]
 have e4:((BitVec.ofInt IntKind.u64.bits (b:Int) &&& ~~~(BitVec.ofInt IntKind.u64.bits 9223372036854775808)).toNat:Nat)=b % 9223372036854775808:=e
 rw [e4]
 omega
theorem iG (x y:Operand) (a b:List UInt8) (h:a.length+b.length≤9223372036854775807) (w:World):
  ((do eqGuard .add 9 x y (.string (str a)) (.string (str b));binOp .add 9 (.string (str a)) (.string (str b))):Sem Value).run Tryz.prog w = .ok (.string (str (a++b))) w:=by
 have e:(eqGuard .add 9 x y (.string (str a)) (.string (str b))).run Tryz.prog w = .ok () w:=rfl
 rw [Sem.run_bind,e,← str_append]
 show (Op.stringOp .add (str a) (str b)).run Tryz.prog w=_
 exact run_string_add_sum w (str a) (str b) (by rw [str_size,str_size];exact h)
noncomputable def rTp (n:Nat):List UInt8:=if (n:Int)=9221120237041090560 then [110,97,110] else if (n:Int)=9218868437227405312 then [105,110,102] else (f7 n).getD []
noncomputable def rTx (n:Nat):List UInt8:=if n<9223372036854775808 then rTp n else 45::rTp (n - 9223372036854775808)
theorem aT5 (n:Nat):(rTp n).length≤1048576:=by
 unfold rTp
 split
 · decide
 split
 · decide
 cases h:f7 n with
 | none=>decide
 | some t=>exact (fD h).2.2.len
theorem aKo (n:Nat) (hn:n<18446744073709551616):Int.fdiv (n:Int) (2 ^ min (Int.toNat 63) IntKind.u64.bits)=if n<9223372036854775808 then 0 else 1:=by
 have e:(2:Int) ^ min (Int.toNat 63) IntKind.u64.bits=9223372036854775808:=by decide
 rw [e,Int.fdiv_eq_ediv_of_nonneg _ (by omega)]
 split <;> omega
open Go.Sy
theorem aB7 (n:Nat) (hn:n<18446744073709551616) (w:World) (ht:Tab w):
  CB 96 #[n6 (n:Int)] w (.bool (lZ n)):=by
 refine eN [n6 (n:Int)] Tryz.func96 (fun γ0 hγ0=>?_)
 refine rs [8] 60 0 ?_
 by_cases h1:(n:Int)=9221120237041090560
 ·
  refine gS 6 (x := .bool (intEq (n:Int) 9221120237041090560)) (.bool true) (by rw [nX h1]) ?_
  refine gS 7 (x := .bool (intEq (n:Int) 9221120237041090560)) (.bool true) (by rw [nX h1]) (rs [] 60 3 ?_)
  refine gR (.bool true) (fun W hk=>⟨?_,hk.below⟩)
  simp [lZ,nanBits,h1]
 refine gS 6 (x := .bool (intEq (n:Int) 9221120237041090560)) (.bool false) (by rw [lC h1]) ?_
 refine gS 7 (x := .bool (intEq (n:Int) 9221120237041090560)) (.bool false) (by rw [lC h1]) (rk ?_)
 by_cases h2:(n:Int)=9218868437227405312
 ·
  refine kz (n:Int) 9218868437227405312 h2 (rk ?_)
  refine gR (.bool true) (fun W hk=>⟨?_,hk.below⟩)
  simp [lZ,kE,h2]
 refine kw (n:Int) 9218868437227405312 h2 (rk ?_)
 have hp:=fun W (hk:Keep (·<w.heap.size) w W)=>aH2 n hn W (ht.below hk.below)
 cases h3:f7 n with
 | none=>
   refine gX [n6 (n:Int)] (.tuple #[nT [],nI 2]) (fun W hk=>by have:=hp W hk;rw [h3] at this;exact this) (rs [] 60 3 ?_)
   refine gR (.bool false) (fun W hk=>⟨?_,hk.below⟩)
   simp [lZ,nanBits,kE,h1,h2,h3]
 | some t=>
   refine gX [n6 (n:Int)] (.tuple #[nT t,nI 0]) (fun W hk=>by have:=hp W hk;rw [h3] at this;exact this) (rs [] 60 3 ?_)
   refine gP [n6 (n:Int)] (.bool true) (fun W hk=>aUi W (fD h3).1) (rs [] 60 3 ?_)
   refine gR (.bool true) (fun W hk=>⟨?_,hk.below⟩)
   simp [lZ,h3]
noncomputable def lX (ty:Int) (n:Nat):Bool:=if ty=1 then decide (n<9223372036854775808) else if ty=2 then decide (n≤1) else if ty=3 then lZ n else false
theorem aHo (ty:Int) (n:Nat) (hn:n<18446744073709551616) (w:World) (ht:Tab w):
  CB 114 #[.agg #[n8 ty,n6 (n:Int)]] w (.bool (lX ty n)):=by
 refine eN [.agg #[n8 ty,n6 (n:Int)]] Tryz.func114 (fun γ0 hγ0=>?_)
 refine rk ?_
 by_cases h1:ty=1
 ·
  refine kz ty 1 h1 (rs [] 60 3 ?_)
  refine gR (.bool (!(intLt (IntKind.wrap .i64 (n:Int)) 0))) (fun W hk=>⟨?_,hk.below⟩)
  rw [lX,if_pos h1,aUc hn]
 refine kw ty 1 h1 (rk ?_)
 by_cases h2:ty=2
 ·
  refine kz ty 2 h2 (rs [] 60 3 ?_)
  refine gR (.bool (!(intLt 1 (n:Int)))) (fun W hk=>⟨?_,hk.below⟩)
  rw [lX,if_neg h1,if_pos h2,aNi]
 refine kw ty 2 h2 (rk ?_)
 by_cases h3:ty=3
 ·
  refine kz ty 3 h3 (rs [] 60 3 ?_)
  refine gX [n6 (n:Int)] (.bool (lZ n)) (fun W hk=>aB7 n hn W (ht.below hk.below)) (rs [] 60 3 ?_)
  refine gR (.bool (lZ n)) (fun W hk=>⟨?_,hk.below⟩)
  rw [lX,if_neg h1,if_neg h2,if_pos h3]
 refine kw ty 3 h3 (rs [] 60 3 ?_)
 refine gR (.bool false) (fun W hk=>⟨?_,hk.below⟩)
 simp [lX,h1,h2,h3]
open Classical in
noncomputable def mW (ty:Int) (n:Nat):Bool:=if ty=1 then !decide ((n:Int)=9223372036854775808) else if ty=2 then decide (n≤1) else if ty=3 then (if (n:Int)=9221120237041090560 then true else if toN n=n then lZ (n % 9223372036854775808) else false) else false
theorem aL6 (ty:Int) (n:Nat) (hn:n<18446744073709551616) (w:World) (ht:Tab w):
  CB 73 #[.agg #[n8 ty,n6 (n:Int)]] w (.bool (mW ty n)):=by
 refine eN [.agg #[n8 ty,n6 (n:Int)]] Tryz.func73 (fun γ0 hγ0=>?_)
 refine rk ?_
 by_cases h1:ty=1
 ·
  refine kz ty 1 h1 (rs [] 60 3 ?_)
  refine gR (.bool (!(intEq (n:Int) 9223372036854775808))) (fun W hk=>⟨?_,hk.below⟩)
  rw [mW,if_pos h1,intEq_eq]
 refine kw ty 1 h1 (rk ?_)
 by_cases h2:ty=2
 ·
  refine kz ty 2 h2 (rs [] 60 3 ?_)
  refine gR (.bool (!(intLt 1 (n:Int)))) (fun W hk=>⟨?_,hk.below⟩)
  rw [mW,if_neg h1,if_pos h2,aNi]
 refine kw ty 2 h2 (rk ?_)
 by_cases h3:ty=3
 rotate_left
 ·
  refine kw ty 3 h3 (rs [] 60 3 ?_)
  refine gR (.bool false) (fun W hk=>⟨?_,hk.below⟩)
  simp [mW,h1,h2,h3]
 refine kz ty 3 h3 (rk ?_)
 by_cases h4:(n:Int)=9221120237041090560
 ·
  refine kz (n:Int) 9221120237041090560 h4 (rs [] 60 3 ?_)
  refine gR (.bool true) (fun W hk=>⟨?_,hk.below⟩)
  rw [mW,if_neg h1,if_neg h2,if_pos h3,if_pos h4]
 refine kw (n:Int) 9221120237041090560 h4 (rk ?_)
 by_cases h5:toN n=n
 rotate_left
 ·
  refine gP [n6 (n:Int)] (.bool false) (fun W hk=>by have:=aH5 (n:Int) W;rw [Int.toNat_natCast,beq_false_of_ne (fun h=>h5 (by omega))] at this;exact this) (rs [] 60 3 ?_)
  refine gR (.bool false) (fun W hk=>⟨?_,hk.below⟩)
  rw [mW,if_neg h1,if_neg h2,if_pos h3,if_neg h4,if_neg h5]
 refine gP [n6 (n:Int)] (.bool true) (fun W hk=>aUi W h5) (rs [27] 60 3 ?_)
 refine gS 26 (x:=n6 (Go.bits .andNot .u64 (n:Int) 9223372036854775808)) (n6 ((n % 9223372036854775808:Nat):Int)) (by rw [aQ1 hn]) (rs [] 60 3 ?_)
 refine gX [n6 ((n % 9223372036854775808:Nat):Int)] (.bool (lZ (n % 9223372036854775808))) (fun W hk=>aB7 _ (by omega) W (ht.below hk.below)) (rs [] 60 3 ?_)
 refine gR (.bool (lZ (n % 9223372036854775808))) (fun W hk=>⟨?_,hk.below⟩)
 rw [mW,if_neg h1,if_neg h2,if_pos h3,if_neg h4,if_pos h5]
theorem wA (n:Nat) (hp:n<9223372036854775808) (w:World) (ht:Tab w):
  CB 84 #[n6 (n:Int)] w (nT (rTp n)):=by
 refine eN [n6 (n:Int)] Tryz.func84 (fun γ0 hγ0=>?_)
 refine rk ?_
 by_cases h1:(n:Int)=9221120237041090560
 ·
  refine kz (n:Int) 9221120237041090560 h1 (rs [] 60 3 ?_)
  refine gR (nT [110,97,110]) (fun W hk=>⟨?_,hk.below⟩)
  rw [rTp,if_pos h1]
 refine kw (n:Int) 9221120237041090560 h1 (rk ?_)
 by_cases h2:(n:Int)=9218868437227405312
 ·
  refine kz (n:Int) 9218868437227405312 h2 (rs [] 60 3 ?_)
  refine gR (nT [105,110,102]) (fun W hk=>⟨?_,hk.below⟩)
  rw [rTp,if_neg h1,if_pos h2]
 refine kw (n:Int) 9218868437227405312 h2 (rs [12] 60 0 ?_)
 refine gS 11 (x:=n6 (Int.fdiv (n:Int) (2 ^ min (Int.toNat 63) IntKind.u64.bits))) (n6 0) (by rw [aKo n (by omega),if_pos hp]) (rs [] 60 1 ?_)
 refine gX [n6 (n:Int)] (.tuple #[nT ((f7 n).getD []),nI (if (f7 n).isSome then 0 else 2)]) (fun W hk=>aH2 n (by omega) W (ht.below hk.below)) (rs [] 60 1 ?_)
 refine gR (nT ((f7 n).getD [])) (fun W hk=>⟨?_,hk.below⟩)
 rw [rTp,if_neg h1,if_neg h2]
theorem aFh (n:Nat) (hn:n<18446744073709551616) (hp:9223372036854775808≤n) (w:World) (ht:Tab w):
  CB 84 #[n6 (n:Int)] w (nT (rTx n)):=by
 refine eN [n6 (n:Int)] Tryz.func84 (fun γ0 hγ0=>?_)
 refine rk ?_
 have h1:¬ (n:Int)=9221120237041090560:=by omega
 refine kw (n:Int) 9221120237041090560 h1 (rk ?_)
 have h2:¬ (n:Int)=9218868437227405312:=by omega
 refine kw (n:Int) 9218868437227405312 h2 (rs [12] 60 0 ?_)
 refine gS 11 (x:=n6 (Int.fdiv (n:Int) (2 ^ min (Int.toNat 63) IntKind.u64.bits))) (n6 1) (by rw [aKo n (by omega),if_neg (by omega)]) (rs [] 60 1 ?_)
 obtain ⟨m,hm⟩:∃ m,m=n - 9223372036854775808:=⟨_,rfl⟩
 have e14:Go.bits .xor .u64 (n:Int) 9223372036854775808=(m:Int):=by rw [aA5 hn,jP,if_neg (by omega),hm]
 refine gX [n6 (Go.bits .xor .u64 (n:Int) 9223372036854775808)] (nT (rTp m)) (fun W hk=>by rw [e14];exact wA m (by omega) W (ht.below hk.below)) (rs [16] 60 1 ?_)
 refine gC [45] (rTp m) (by have:=aT5 m;simp;omega) (rs [] 60 1 ?_)
 refine gR (nT ([45]++rTp m)) (fun W hk=>⟨?_,hk.below⟩)
 rw [rTx,if_neg (by omega),← hm]
 rfl
theorem aCp (b:Bool) (w:World):CB 100 #[.bool b] w (nT (if b then [116,114,117,101] else [102,97,108,115,101])):=by
 cases b
 ·
  refine eN [.bool false] Tryz.func100 (fun γ0 hγ0=>?_)
  refine rs [] 60 3 ?_
  refine gR (nT [102,97,108,115,101]) (fun W hk=>⟨rfl,hk.below⟩)
 ·
  refine eN [.bool true] Tryz.func100 (fun γ0 hγ0=>?_)
  refine rs [] 60 3 ?_
  refine gR (nT [116,114,117,101]) (fun W hk=>⟨rfl,hk.below⟩)
theorem aEy (b:Bool) (w:World):CB 83 #[.bool b] w (nT (if b then [116,114,117,101] else [102,97,108,115,101])):=by
 cases b
 ·
  refine eN [.bool false] Tryz.func83 (fun γ0 hγ0=>?_)
  refine rs [] 60 3 ?_
  refine gX [.bool false] (nT [102,97,108,115,101]) (fun W hk=>aCp false W) (rs [] 60 3 ?_)
  refine gR (nT [102,97,108,115,101]) (fun W hk=>⟨rfl,hk.below⟩)
 ·
  refine eN [.bool true] Tryz.func83 (fun γ0 hγ0=>?_)
  refine rs [] 60 3 ?_
  refine gX [.bool true] (nT [116,114,117,101]) (fun W hk=>aCp true W) (rs [] 60 3 ?_)
  refine gR (nT [116,114,117,101]) (fun W hk=>⟨rfl,hk.below⟩)
theorem aG9 (n:Nat) (hn:n<18446744073709551616) (w:World) (ht:Tab w):
  CB 84 #[.int .u64 (n:Int)] w (.string (str (rTx n))):=by
 by_cases hp:n<9223372036854775808
 · have:=wA n hp w ht
   unfold rTx
   rw [if_pos hp]
   exact this
 · exact aFh n hn (by omega) w ht
noncomputable def vTx (ty:Int) (n:Nat):List UInt8:=if ty=1 then Lib.itoa (IntKind.wrap .i64 (n:Int)) else if ty=2 then (if (n:Int)=1 then [116,114,117,101] else [102,97,108,115,101]) else rTx n
theorem aBw (ty:Int) (n:Nat) (hn:n<18446744073709551616) (w:World) (ht:Tab w):
  CB 49 #[.agg #[n8 ty,n6 (n:Int)]] w (nT (vTx ty n)):=by
 refine eN [.agg #[n8 ty,n6 (n:Int)]] Tryz.func49 (fun γ0 hγ0=>?_)
 refine rk ?_
 by_cases h1:ty=1
 ·
  refine kz ty 1 h1 (rk ?_)
  refine gX [nI (IntKind.wrap .i64 (n:Int)),nI 10] (nT (Lib.itoa (IntKind.wrap .i64 (n:Int)))) (fun W hk=>(Tryz.strconv_FormatInt_10 _ (by rw [IntKind.wrap_i64];omega) (by rw [IntKind.wrap_i64];omega) W (ht.below hk.below)).mono fun e w' ⟨h1,k,os,h2⟩=>⟨h1,by rw [h2];exact zW _ _ _⟩) (rs [] 60 1 ?_)
  refine gR (nT (Lib.itoa (IntKind.wrap .i64 (n:Int)))) (fun W hk=>⟨?_,hk.below⟩)
  rw [vTx,if_pos h1]
 refine kw ty 1 h1 (rk ?_)
 by_cases h2:ty=2
 ·
  refine kz ty 2 h2 (rs [16] 60 0 ?_)
  by_cases h3:(n:Int)=1
  ·
   refine gS 15 (x := .bool (intEq (n:Int) 1)) (.bool true) (by rw [nX h3]) ?_
   refine gX [.bool true] (nT [116,114,117,101]) (fun W hk=>aEy true W) (rs [] 60 1 ?_)
   refine gR (nT [116,114,117,101]) (fun W hk=>⟨?_,hk.below⟩)
   rw [vTx,if_neg h1,if_pos h2,if_pos h3]
  ·
   refine gS 15 (x := .bool (intEq (n:Int) 1)) (.bool false) (by rw [lC h3]) ?_
   refine gX [.bool false] (nT [102,97,108,115,101]) (fun W hk=>aEy false W) (rs [] 60 1 ?_)
   refine gR (nT [102,97,108,115,101]) (fun W hk=>⟨?_,hk.below⟩)
   rw [vTx,if_neg h1,if_pos h2,if_neg h3]
 refine kw ty 2 h2 (rk ?_)
 refine gX [n6 (n:Int)] (nT (rTx n)) (fun W hk=>aG9 n hn W (ht.below hk.below)) (rs [] 60 1 ?_)
 refine gR (nT (rTx n)) (fun W hk=>⟨?_,hk.below⟩)
 rw [vTx,if_neg h1,if_neg h2]
theorem aJp {n:Nat} (h:n<9223372036854775808):Lib.itoa (IntKind.wrap .i64 (n:Int))=Lib.decDigits (n:Int).toNat:=by
 have e:IntKind.wrap .i64 (n:Int)=(n:Int):=by rw [IntKind.wrap_i64];omega
 rw [e]
 unfold Lib.itoa
 rw [if_neg (by omega)]
theorem aTo {n:Nat} (hn:n<18446744073709551616) (h:¬ n<9223372036854775808):Lib.itoa (IntKind.wrap .i64 (n:Int))=45::Lib.decDigits (18446744073709551616 - (n:Int)).toNat:=by
 obtain ⟨z,hz⟩:∃ z,z=IntKind.wrap .i64 (n:Int):=⟨_,rfl⟩
 have e:z=(n:Int) - 18446744073709551616:=by rw [hz,IntKind.wrap_i64];omega
 rw [← hz]
 unfold Lib.itoa
 rw [if_pos (by omega)]
 have e2:z.natAbs=(18446744073709551616 - (n:Int)).toNat:=by omega
 rw [e2]
theorem aSg (b:Int):dA 1 b=if b<b8 then some (Lib.decDigits b.toNat) else none:=by unfold dA;rw [if_pos rfl]
theorem aVp (b:Int):dA 2 b=if b=1 then some [116,114,117,101] else if b=0 then some [102,97,108,115,101] else none:=by unfold dA;rw [if_neg (by decide),if_pos rfl]
theorem aSe (b:Int):dA 3 b=if b=nanBits then some [110,97,110] else if b=kE then some [105,110,102] else if b<b8 then f7 b.toNat else none:=by unfold dA;rw [if_neg (by decide),if_neg (by decide),if_pos rfl]
theorem aVn {ty:Int} (h1:ty≠1) (h2:ty≠2) (h3:ty≠3) (b:Int):dA ty b=none:=by unfold dA;rw [if_neg h1,if_neg h2,if_neg h3]
theorem aQe (n:Nat):lZ n=(dA 3 (n:Int)).isSome∧∀ t,dA 3 (n:Int)=some t→n<9223372036854775808∧rTp n=t:=by
 rw [aSe]
 unfold lZ rTp nanBits kE b8
 by_cases h4:(n:Int)=9221120237041090560
 · rw [if_pos h4,if_pos h4,decide_eq_true h4]
   exact ⟨rfl,fun t ht=>⟨by omega,by injection ht⟩⟩
 · rw [if_neg h4,if_neg h4,decide_eq_false h4]
   by_cases h5:(n:Int)=9218868437227405312
   · rw [if_pos h5,if_pos h5,decide_eq_true h5]
     exact ⟨rfl,fun t ht=>⟨by omega,by injection ht⟩⟩
   · rw [if_neg h5,if_neg h5,decide_eq_false h5,Int.toNat_natCast]
     by_cases h6:(n:Int)<9223372036854775808
     · rw [if_pos h6]
       exact ⟨by simp,fun t ht=>⟨by omega,by rw [ht];rfl⟩⟩
     · rw [if_neg h6]
       refine ⟨?_,fun t ht=>by cases ht⟩
       cases h7:f7 n with
       | none=>rfl
       | some t=>exact absurd (fD h7).2.1 (by omega)
theorem aSz {n m:Nat} (hn:n<18446744073709551616) (h:¬ n<9223372036854775808) (hm:m=n - 9223372036854775808) (hx:toN n≠n):toN m=9221120237041090560:=by
 have hnm:m=jP n:=by rw [hm];unfold jP;rw [if_neg h]
 have h1:fM n=true:=by
  rcases rJ n with ⟨_,h2⟩ | ⟨h2,_⟩
  · exact absurd h2 hx
  · have h3:=tX n
    cases hb:fM n with
    | true=>rfl
    | false=>
      rw [hb] at h3
      rw [show FloatKind.f64.format.order n n=none from h2] at h3
      cases h3
 have h2:fM m=true:=by rw [hnm,aRi hn,h1]
 rcases rJ m with ⟨h3,_⟩ | ⟨_,h4⟩
 · have h5:=tX m
   rw [h2,show FloatKind.f64.format.order m m=some .eq from h3] at h5
   cases h5
 · exact h4
theorem xX (ty:Int) (n:Nat) (hn:n<18446744073709551616):lX ty n=(dA ty (n:Int)).isSome∧∀ t,dA ty (n:Int)=some t→vTx ty n=t:=by
 by_cases h1:ty=1
 · subst h1
   rw [aSg]
   unfold lX vTx b8
   rw [if_pos rfl,if_pos rfl]
   by_cases h:n<9223372036854775808
   · rw [decide_eq_true h,if_pos (show (n:Int)<9223372036854775808 by omega),aJp h]
     exact ⟨rfl,fun t ht=>by injection ht⟩
   · rw [decide_eq_false h,if_neg (show ¬ (n:Int)<9223372036854775808 by omega)]
     exact ⟨rfl,fun t ht=>by cases ht⟩
 by_cases h2:ty=2
 · subst h2
   rw [aVp]
   unfold lX vTx
   rw [if_neg h1,if_pos rfl,if_neg h1,if_pos rfl]
   by_cases h3:(n:Int)=1
   · rw [if_pos h3,if_pos h3,decide_eq_true (by omega)]
     exact ⟨rfl,fun t ht=>by injection ht⟩
   · rw [if_neg h3,if_neg h3]
     by_cases h4:(n:Int)=0
     · rw [if_pos h4,decide_eq_true (by omega)]
       exact ⟨rfl,fun t ht=>by injection ht⟩
     · rw [if_neg h4,decide_eq_false (by omega)]
       exact ⟨rfl,fun t ht=>by cases ht⟩
 by_cases h3:ty=3
 · subst h3
   obtain ⟨g1,g2⟩:=aQe n
   unfold lX vTx
   rw [if_neg h1,if_neg h2,if_pos rfl,if_neg h1,if_neg h2]
   refine ⟨g1,fun t ht=>?_⟩
   obtain ⟨g3,g4⟩:=g2 t ht
   unfold rTx
   rw [if_pos g3,g4]
 · rw [aVn h1 h2 h3]
   unfold lX
   rw [if_neg h1,if_neg h2,if_neg h3]
   exact ⟨rfl,fun t ht=>by cases ht⟩
theorem aEh (ty:Int) (n:Nat) (hn:n<18446744073709551616):mW ty n=(eG ty (n:Int)).isSome∧∀ t,eG ty (n:Int)=some t→vTx ty n=t:=by
 by_cases h1:ty=1
 · subst h1
   unfold mW eG vTx b8
   rw [if_pos rfl,if_pos rfl,if_pos rfl]
   by_cases h:n<9223372036854775808
   · rw [if_pos (show (n:Int)<9223372036854775808 by omega),decide_eq_false (show ¬ (n:Int)=9223372036854775808 by omega),aJp h]
     exact ⟨rfl,fun t ht=>by injection ht⟩
   · rw [if_neg (show ¬ (n:Int)<9223372036854775808 by omega)]
     by_cases h4:(n:Int)=9223372036854775808
     · rw [if_pos h4,decide_eq_true h4]
       exact ⟨rfl,fun t ht=>by cases ht⟩
     · rw [if_neg h4,decide_eq_false h4,aTo hn h]
       exact ⟨rfl,fun t ht=>by injection ht⟩
 have hlit:=xX ty n hn
 by_cases h3:ty=3
 · subst h3
   unfold mW eG vTx
   rw [if_neg h1,if_neg (show ¬ (3:Int)=2 by decide),if_pos (show (3:Int)=3 from rfl),if_neg h1,if_pos (show (3:Int)=3 from rfl),if_neg h1,if_neg (show ¬ (3:Int)=2 by decide)]
   unfold b8 rTx
   by_cases h:n<9223372036854775808
   · rw [if_pos (show (n:Int)<9223372036854775808 by omega),if_pos h]
     obtain ⟨g1,g2⟩:=aQe n
     refine ⟨?_,fun t ht=>(g2 t ht).2⟩
     rw [← g1,Nat.mod_eq_of_lt h]
     by_cases h4:(n:Int)=9221120237041090560
     · rw [if_pos h4]
       unfold lZ nanBits
       rw [decide_eq_true h4]
       rfl
     · rw [if_neg h4]
       by_cases h5:toN n=n
       · rw [if_pos h5]
       · rw [if_neg h5]
         unfold lZ nanBits kE
         have h6:¬ (n:Int)=9218868437227405312:=fun h6=>h5 (by
          have:n=9218868437227405312:=by omega
          subst this
          decide)
         rw [decide_eq_false h4,decide_eq_false h6]
         cases h7:f7 n with
         | none=>rfl
         | some t=>exact absurd (fD h7).1 h5
   · rw [if_neg (show ¬ (n:Int)<9223372036854775808 by omega),if_neg h,if_neg (show ¬ (n:Int)=9221120237041090560 by omega)]
     obtain ⟨m,hm⟩:∃ m,m=n - 9223372036854775808:=⟨_,rfl⟩
     have hm1:(n:Int) - 9223372036854775808=(m:Int):=by omega
     have hm2:n % 9223372036854775808=m:=by omega
     rw [hm1,hm2,← hm]
     obtain ⟨g1,g2⟩:=aQe m
     unfold nanBits
     by_cases h4:(m:Int)=9221120237041090560
     · rw [if_pos h4]
       refine ⟨?_,fun t ht=>by cases ht⟩
       have hmn:m=9221120237041090560:=by omega
       have hn2:n=18444492273895866368:=by omega
       have h5:¬ toN n=n:=by
        rw [hn2]
        decide
       rw [if_neg h5]
       rfl
     · rw [if_neg h4]
       by_cases h5:toN n=n
       · rw [if_pos h5,g1]
         refine ⟨by cases dA 3 (m:Int) <;> rfl,fun t ht=>?_⟩
         cases h6:dA 3 (m:Int) with
         | none=>rw [h6] at ht;cases ht
         | some t'=>
           rw [h6] at ht
           injection ht with ht
           rw [(g2 t' h6).2]
           exact ht
       · rw [if_neg h5]
         have hN:=aSz hn h hm h5
         have hnone:dA 3 (m:Int)=none:=by
          rw [aSe]
          unfold nanBits kE b8
          rw [if_neg h4]
          have h6:¬ (m:Int)=9218868437227405312:=fun h6=>by
           have hmn:m=9218868437227405312:=by omega
           rw [hmn] at hN
           exact absurd hN (by decide)
          rw [if_neg h6,if_pos (show (m:Int)<9223372036854775808 by omega),Int.toNat_natCast]
          cases h7:f7 m with
          | none=>rfl
          | some t=>
            have:=(fD h7).1
            rw [hN] at this
            exact absurd (show (m:Int)=9221120237041090560 by omega) h4
         rw [hnone]
         exact ⟨rfl,fun t ht=>by cases ht⟩
 · have e:eG ty (n:Int)=dA ty (n:Int):=by unfold eG;rw [if_neg h1,if_neg h3]
   rw [e]
   refine ⟨?_,hlit.2⟩
   rw [← hlit.1]
   unfold mW lX
   rw [if_neg h1,if_neg h1,if_neg h3,if_neg h3]
end
end Go.Proofs.YtijopiphkgddhaaGreatDoor
section
namespace Go.Proofs.YtijopiphkgddhaaGreatDoor
open Go.RowKit Go.As Go.WideShapes Go.ChangeShapes
def i7 {α:Type} (μ:α→Nat):List α→Nat
 | []=>0
 | x::l=>μ x+i7 μ l
section
variable {H:Type} {enc:TypeId×Value→H} {w:World}
end
-- sizes: names' letters,and what stands
mutual
def exB:Ex→Nat
 | .mk _ _ _ name kids=>name.length+5+iW kids
def iW:List Ex→Nat
 | []=>0
 | e::l=>exB e+iW l
end
mutual
def exR:Ex→Prop
 | .mk op ty bits _ kids=>(0≤op∧op<256)∧(0≤ty∧ty<256)∧(0≤bits∧bits<18446744073709551616)∧jS kids
def jS:List Ex→Prop
 | []=>True
 | e::l=>exR e∧jS l
end
theorem exRs_mem:∀ {l:List Ex},jS l↔∀ e∈l,exR e
 | []=>by simp [jS]
 | e::l=>by simp [jS,exRs_mem]
mutual
theorem aKl:∀ (e:Ex),wgt e≤exB e
 | .mk _ _ _ _ k=>by simp only [wgt,exB];have:=aD1 k;omega
theorem aD1:∀ (l:List Ex),cL l≤iW l
 | []=>aH _
 | e::l=>by simp only [cL,iW];have:=aKl e;have:=aD1 l;omega
end
mutual
def stB:St→Nat
 | .mk _ name e b l=>name.length+1+exB e+j4 b+j4 l
def j4:List St→Nat
 | []=>0
 | s::l=>stB s+j4 l
end
mutual
def stR:St→Prop
 | .mk kind _ e b l=>(-9223372036854775808≤kind∧kind<9223372036854775808)∧exR e∧j5 b∧j5 l
def j5:List St→Prop
 | []=>True
 | s::l=>stR s∧j5 l
end
theorem stRs_mem:∀ {l:List St},j5 l↔∀ e∈l,stR e
 | []=>by simp [j5]
 | e::l=>by simp [j5,stRs_mem]
mutual
theorem aT7:∀ (s:St),swt s≤stB s
 | .mk _ _ e b l=>by simp only [swt,stB];have:=aKl e;have:=oM b;have:=oM l;omega
theorem oM:∀ (l:List St),cS l≤j4 l
 | []=>aH _
 | s::l=>by simp only [cS,j4];have:=aT7 s;have:=oM l;omega
end
def vrB (v:Vr):Nat:=v.name.length+1
def vrR (v:Vr):Prop:=(0≤v.ty∧v.ty<256)∧0≤v.bits∧v.bits<18446744073709551616
def txB (s:List UInt8):Nat:=s.length+1
def thB (t:Th):Nat:=t.name.length+1+i7 vrB t.locals+j4 t.body
def thR (t:Th):Prop:=(∀ v∈t.locals,vrR v)∧j5 t.body
def pgB (p:Pg):Nat:=i7 vrB p.shared+i7 txB p.mutexes+i7 thB p.threads
def pgR (p:Pg):Prop:=(∀ v∈p.shared,vrR v)∧∀ t∈p.threads,thR t
theorem jW {α:Type} {μ:α→Nat} (h:∀ x,1≤μ x):∀ (l:List α),l.length≤i7 μ l
 | []=>aH _
 | x::l=>by simp only [i7,aB];have:=h x;have:=jW h l;omega
theorem jV {α:Type} {μ:α→Nat} {x:α}:∀ {l:List α},x∈l→μ x≤i7 μ l
 | y::l,h=>by
   simp only [i7]
   rcases bJ h with rfl | h
   · omega
   · have:=jV (μ:=μ) h;omega
section
variable {H:Type} {enc:TypeId×Value→H} {w:World} {held:Bool}
end
end Go.Proofs.YtijopiphkgddhaaGreatDoor
end
namespace Go.Proofs.YtijopiphkgddhaaGreatDoor
open Go.RowKit Go.As
section
set_option maxRecDepth 100000
open Go.Sy
theorem aH9 (L M:List (List UInt8)) (a1 a2:Option Addr) (n1 n2 cap1 cap2:Nat) (xs1 xs2:List Value) (w:World) (hn1:n1=L.length) (hn2:n2=M.length) (hbd:n1≤1099511627776)
  (hsl1:Sy.SlAt (·<w.heap.size) w a1 n1 1 xs1) (hsl2:Sy.SlAt (·<w.heap.size) w a2 n2 1 xs2) (hks1:LsAt TxAt L xs1) (hks2:LsAt TxAt M xs2):
  CB 23 #[.slice a1 n1 cap1,.slice a2 n2 cap2] w (.bool (bY L M)):=by
 refine eN [.slice a1 n1 cap1,.slice a2 n2 cap2] Tryz.func23 (fun γ0 hγ0=>?_)
 refine rk ?_
 refine cJ (b:=!(intEq (n1:Int) (n2:Int))) (by kernel_rfl) (fun hnn=>?_) (fun hnn=>?_)
 ·
  refine rs [] 60 2 ?_
  refine gR (.bool false) (fun W hk=>⟨?_,hk.below⟩)
  rw [b9]
  intro h
  rw [intEq_eq] at hnn;simp_all
 have hnn1:n1=n2:=by rw [intEq_eq] at hnn;have:(n1:Int)=(n2:Int):=(by simpa using hnn);omega
 refine rk ?_
 refine cF ?_
 refine cZ (fun i:List (List UInt8)×List (List UInt8)×List (List UInt8)=>i.2.1.length) (fun i=>L=i.1++i.2.1∧M=i.1++i.2.2) (fun i=>⟨mkT [(0,vL a1 n1 cap1),(1,vL a2 n2 cap2),(11,vL a1 n1 cap1),(12,vI (n1:Int)),(13,vI (i.1.length:Int))],mkH [],gz,[]⟩)
  ([],L,M) ⟨rfl,rfl⟩ (by kernel_rfl)
  (fun h=>gU _ [(0,vL a1 n1 cap1),(1,vL a2 n2 cap2),(11,vL a1 n1 cap1),(12,vI (n1:Int)),(13,vI (([]:List (List UInt8)).length:Int))] [] gz (fun b hb=>hγ0 b hb) h) ?_
 rintro ⟨l1,l2,m2⟩ ⟨hI1,hI2⟩ ih
 simp only at hI1 hI2
 have hq1:n1=l1.length+l2.length:=by rw [hn1,hI1,aA]
 have hq2:n2=l1.length+m2.length:=by rw [hn2,hI2,aA]
 refine rk ?_
 cases l2 with
 | nil=>
   obtain rfl:m2=[]:=aF (by simp only [aD] at hq1;omega)
   refine ky (l1.length:Int) (n1:Int) (by rw [hq1];simp) (rk ?_)
   refine gR (.bool true) (fun W hk=>⟨?_,hk.below⟩)
   rw [sameB_t.2 (by rw [hI1,hI2])]
 | cons x l3=>
   obtain ⟨y,m3,rfl⟩:∃ y m3,m2=y::m3:=by
    cases m2 with
    | nil=>simp only [aD,aB] at hq1 hq2;omega
    | cons a b=>exact ⟨a,b,rfl⟩
   have hin1:l1.length<n1:=by rw [hq1,aB];omega
   have hin2:l1.length<n2:=by omega
   have hks1':=hks1
   have hks2':=hks2
   rw [hI1] at hks1'
   rw [hI2] at hks2'
   obtain ⟨c1,hc1,hcell1⟩:=hks1'.at_ (fun _ _ h=>h.len)
   obtain ⟨c2,hc2,hcell2⟩:=hks2'.at_ (fun _ _ h=>h.len)
   refine kx (l1.length:Int) (n1:Int) (by omega) (rk ?_)
   obtain rfl:c1=[nT x]:=hc1
   obtain rfl:c2=[nT y]:=hc2
   refine kN cP (by kernel_rfl) ?_
   refine bZ [] 60 ?_
   refine qI 24 9 cap1 l1.length hsl1 hin1 ?_
   refine bZ [] 60 ?_
   refine qL 9 (nT x) l1.length 0 hsl1 (hcell1 0 _ rfl) ?_
   refine bZ [] 60 ?_
   refine qI 24 9 cap2 l1.length hsl2 hin2 ?_
   refine bZ [] 60 ?_
   refine qL 9 (nT y) l1.length 0 hsl2 (hcell2 0 _ rfl) ?_
   refine bZ [] 60 ?_
   refine qE ?_
   refine rk ?_
   refine cJ (b:=!(bEqL x y)) (by kernel_rfl) (fun hss=>?_) (fun hss=>?_)
   ·
    have hne:x≠y:=fun h=>by rw [h,bEqL_eq] at hss;simp at hss
    refine rs [] 60 2 ?_
    refine gR (.bool false) (fun W hk=>⟨?_,hk.below⟩)
    rw [b9]
    intro h
    rw [hI1,hI2] at h
    have h2:=(List.cons.inj (aZ h)).1
    exact hne h2
   ·
    have hxy:x=y:=by rw [bEqL_eq] at hss;simpa using hss
    refine rs [] 60 2 ?_
    refine gJ 13 l1 x (by omega) ?_
    exact gU _ [(0,vL a1 n1 cap1),(1,vL a2 n2 cap2),(11,vL a1 n1 cap1),(12,vI (n1:Int)),(13,vI ((l1++[x]).length:Int))] [] gz (fun b hb=>hγ0 b hb) (ih (l1++[x],l3,m3) ⟨(by show L=(l1++[_])++l3;rw [hI1];simp),(by show M=(l1++[_])++m3;rw [hI2,← hxy];simp)⟩ lS1)
theorem aB2 (L M:List Vr) (a1 a2:Option Addr) (n1 n2 cap1 cap2:Nat) (xs1 xs2:List Value) (w:World) (hn1:n1=L.length) (hn2:n2=M.length) (hbd:n1≤1099511627776)
  (hsl1:Sy.SlAt (·<w.heap.size) w a1 n1 3 xs1) (hsl2:Sy.SlAt (·<w.heap.size) w a2 n2 3 xs2) (hks1:LsAt VrAt L xs1) (hks2:LsAt VrAt M xs2):
  CB 22 #[.slice a1 n1 cap1,.slice a2 n2 cap2] w (.bool (bY L M)):=by
 refine eN [.slice a1 n1 cap1,.slice a2 n2 cap2] Tryz.func22 (fun γ0 hγ0=>?_)
 refine rk ?_
 refine cJ (b:=!(intEq (n1:Int) (n2:Int))) (by kernel_rfl) (fun hnn=>?_) (fun hnn=>?_)
 ·
  refine rs [] 60 2 ?_
  refine gR (.bool false) (fun W hk=>⟨?_,hk.below⟩)
  rw [b9]
  intro h
  rw [intEq_eq] at hnn;simp_all
 have hnn1:n1=n2:=by rw [intEq_eq] at hnn;have:(n1:Int)=(n2:Int):=(by simpa using hnn);omega
 refine rk ?_
 refine cF ?_
 refine cZ (fun i:List Vr×List Vr×List Vr=>i.2.1.length) (fun i=>L=i.1++i.2.1∧M=i.1++i.2.2) (fun i=>⟨mkT [(0,vL a1 n1 cap1),(1,vL a2 n2 cap2),(11,vL a1 n1 cap1),(12,vI (n1:Int)),(13,vI (i.1.length:Int))],mkH [],gz,[]⟩)
  ([],L,M) ⟨rfl,rfl⟩ (by kernel_rfl)
  (fun h=>gU _ [(0,vL a1 n1 cap1),(1,vL a2 n2 cap2),(11,vL a1 n1 cap1),(12,vI (n1:Int)),(13,vI (([]:List Vr).length:Int))] [] gz (fun b hb=>hγ0 b hb) h) ?_
 rintro ⟨l1,l2,m2⟩ ⟨hI1,hI2⟩ ih
 simp only at hI1 hI2
 have hq1:n1=l1.length+l2.length:=by rw [hn1,hI1,aA]
 have hq2:n2=l1.length+m2.length:=by rw [hn2,hI2,aA]
 refine rk ?_
 cases l2 with
 | nil=>
   obtain rfl:m2=[]:=aF (by simp only [aD] at hq1;omega)
   refine ky (l1.length:Int) (n1:Int) (by rw [hq1];simp) (rk ?_)
   refine gR (.bool true) (fun W hk=>⟨?_,hk.below⟩)
   rw [sameB_t.2 (by rw [hI1,hI2])]
 | cons x l3=>
   obtain ⟨y,m3,rfl⟩:∃ y m3,m2=y::m3:=by
    cases m2 with
    | nil=>simp only [aD,aB] at hq1 hq2;omega
    | cons a b=>exact ⟨a,b,rfl⟩
   have hin1:l1.length<n1:=by rw [hq1,aB];omega
   have hin2:l1.length<n2:=by omega
   have hks1':=hks1
   have hks2':=hks2
   rw [hI1] at hks1'
   rw [hI2] at hks2'
   obtain ⟨c1,hc1,hcell1⟩:=hks1'.at_ (fun _ _ h=>h.len)
   obtain ⟨c2,hc2,hcell2⟩:=hks2'.at_ (fun _ _ h=>h.len)
   refine kx (l1.length:Int) (n1:Int) (by omega) (rk ?_)
   obtain rfl:c1=[nT x.name,n8 x.ty,n6 x.bits]:=hc1
   obtain rfl:c2=[nT y.name,n8 y.ty,n6 y.bits]:=hc2
   refine kN cP (by kernel_rfl) ?_
   refine bZ [] 60 ?_
   refine qI 23 47 cap1 l1.length hsl1 hin1 ?_
   refine bZ [] 60 ?_
   refine qD 47 3 [nT x.name,n8 x.ty,n6 x.bits] l1.length 0 hsl1 rfl hcell1 ?_
   refine bZ [] 60 ?_
   refine qI 23 47 cap2 l1.length hsl2 hin2 ?_
   refine bZ [] 60 ?_
   refine qD 47 3 [nT y.name,n8 y.ty,n6 y.bits] l1.length 0 hsl2 rfl hcell2 ?_
   refine bZ [24] 60 ?_
   refine qV (.bool (!(uF x y))) (S:=do eqGuard .neq 47 (.tmp 19) (.tmp 23) (.agg #[nT x.name,n8 x.ty,n6 x.bits]) (.agg #[nT y.name,n8 y.ty,n6 y.bits]);binOp .neq 47 (.agg #[nT x.name,n8 x.ty,n6 x.bits]) (.agg #[nT y.name,n8 y.ty,n6 y.bits])) (fun W _=>zQ _ _ _ _ W) ?_
   refine bZ [] 60 ?_
   refine qE ?_
   refine rk ?_
   refine cJ (b:=!(uF x y)) (by kernel_rfl) (fun hss=>?_) (fun hss=>?_)
   ·
    have hne:x≠y:=fun h=>by rw [vrEq_t.2 h] at hss;cases hss
    refine rs [] 60 2 ?_
    refine gR (.bool false) (fun W hk=>⟨?_,hk.below⟩)
    rw [b9]
    intro h
    rw [hI1,hI2] at h
    have h2:=(List.cons.inj (aZ h)).1
    exact hne h2
   ·
    have hxy:x=y:=vrEq_t.1 (by simpa using hss)
    refine rs [] 60 2 ?_
    refine gJ 13 l1 x (by omega) ?_
    exact gU _ [(0,vL a1 n1 cap1),(1,vL a2 n2 cap2),(11,vL a1 n1 cap1),(12,vI (n1:Int)),(13,vI ((l1++[x]).length:Int))] [] gz (fun b hb=>hγ0 b hb) (ih (l1++[x],l3,m3) ⟨(by show L=(l1++[_])++l3;rw [hI1];simp),(by show M=(l1++[_])++m3;rw [hI2,← hxy];simp)⟩ lS1)
end
section
set_option maxRecDepth 100000
theorem vY (ox oy:Operand) (a b c d:Int) (w:World):
  (do eqGuard .eql 42 ox oy (.agg #[.int .u8 a,.int .u64 b]) (.agg #[.int .u8 c,.int .u64 d]);binOp .eql 42 (.agg #[.int .u8 a,.int .u64 b]) (.agg #[.int .u8 c,.int .u64 d]):Sem Value).run Tryz.prog w = .ok (.bool (vEq a b c d)) w:=by
 have h1:(eqGuard .eql 42 ox oy (.agg #[.int .u8 a,.int .u64 b]) (.agg #[.int .u8 c,.int .u64 d])).run Tryz.prog w = .ok () w:=by
  have:=aLt
  unfold eqGuard
  go_simp
 have h2:(binOp .eql 42 (.agg #[.int .u8 a,.int .u64 b]) (.agg #[.int .u8 c,.int .u64 d])).run Tryz.prog w = .ok (.bool (vEq a b c d)) w:=by
  rw [run_eql_struct,pB]
  rfl
 exact Sy.eqG2 h1 h2
open Go.Sy
theorem aQ7 (N:Nat) (H:∀ (e1 e2:Ex) (cs1 cs2:List Value) (w:World),wgt e1≤N→wgt e1≤1099511627776→ExAt (·<w.heap.size) w e1 cs1→ExAt (·<w.heap.size) w e2 cs2→
   CB 88 #[.agg cs1.toArray,.agg cs2.toArray] w (.bool (bY e1 e2)))
  (L M:List Ex) (a1 a2:Option Addr) (n1 n2 cap1 cap2:Nat) (xs1 xs2:List Value) (w:World) (hn1:n1=L.length) (hn2:n2=M.length) (hN:cL L≤N) (hbd:cL L≤1099511627776)
  (hsl1:SlAt (·<w.heap.size) w a1 n1 5 xs1) (hsl2:SlAt (·<w.heap.size) w a2 n2 5 xs2) (hks1:ExsAt (·<w.heap.size) w L xs1) (hks2:ExsAt (·<w.heap.size) w M xs2):
  CB 106 #[.slice a1 n1 cap1,.slice a2 n2 cap2,.func (.func 88) #[] #[]] w (.bool (bY L M)):=by
 have hnl:=qJ L
 refine eN [.slice a1 n1 cap1,.slice a2 n2 cap2,.func (.func 88) #[] #[]] Tryz.func106 (fun γ0 hγ0=>?_)
 refine rk ?_
 refine cJ (b:=!(intEq (n1:Int) (n2:Int))) (by kernel_rfl) (fun hnn=>?_) (fun hnn=>?_)
 ·
  refine rs [] 60 2 ?_
  refine gR (.bool false) (fun W hk=>⟨?_,hk.below⟩)
  rw [b9]
  intro h
  rw [intEq_eq] at hnn;simp_all
 have hnn1:n1=n2:=by rw [intEq_eq] at hnn;have:(n1:Int)=(n2:Int):=(by simpa using hnn);omega
 refine rk ?_
 refine cF ?_
 refine cZ (fun i:List Ex×List Ex×List Ex=>i.2.1.length) (fun i=>L=i.1++i.2.1∧M=i.1++i.2.2) (fun i=>⟨mkT [(0,vL a1 n1 cap1),(1,vL a2 n2 cap2),(2,bW (.func (.func 88) #[] #[])),(15,vL a1 n1 cap1),(16,vI (n1:Int)),(17,vI (i.1.length:Int))],mkH [],gz,[]⟩)
  ([],L,M) ⟨rfl,rfl⟩ (by kernel_rfl)
  (fun h=>gU _ [(0,vL a1 n1 cap1),(1,vL a2 n2 cap2),(2,bW (.func (.func 88) #[] #[])),(15,vL a1 n1 cap1),(16,vI (n1:Int)),(17,vI (([]:List Ex).length:Int))] [] gz (fun b hb=>hγ0 b hb) h) ?_
 rintro ⟨l1,l2,m2⟩ ⟨hI1,hI2⟩ ih
 simp only at hI1 hI2
 have hq1:n1=l1.length+l2.length:=by rw [hn1,hI1,aA]
 have hq2:n2=l1.length+m2.length:=by rw [hn2,hI2,aA]
 refine rk ?_
 cases l2 with
 | nil=>
   obtain rfl:m2=[]:=aF (by simp only [aD] at hq1;omega)
   refine ky (l1.length:Int) (n1:Int) (by rw [hq1];simp) (rk ?_)
   refine gR (.bool true) (fun W hk=>⟨?_,hk.below⟩)
   rw [sameB_t.2 (by rw [hI1,hI2])]
 | cons x l3=>
   obtain ⟨y,m3,rfl⟩:∃ y m3,m2=y::m3:=by
    cases m2 with
    | nil=>simp only [aD,aB] at hq1 hq2;omega
    | cons a b=>exact ⟨a,b,rfl⟩
   have hin1:l1.length<n1:=by rw [hq1,aB];omega
   have hin2:l1.length<n2:=by omega
   have hks1':=ExsAt_ls.1 hks1
   have hks2':=ExsAt_ls.1 hks2
   rw [hI1] at hks1'
   rw [hI2] at hks2'
   obtain ⟨c1,hc1,hcell1⟩:=hks1'.at_ (fun _ _ h=>h.len)
   obtain ⟨c2,hc2,hcell2⟩:=hks2'.at_ (fun _ _ h=>h.len)
   refine kx (l1.length:Int) (n1:Int) (by omega) (rk ?_)
   have hwl:cL L=cL l1+(wgt x+cL l3):=by rw [hI1,rI];simp [cL]
   have hc1k:=fun W (hk:Keep (·<w.heap.size) w W)=>hc1.keep hk (kU hk)
   have hc2k:=fun W (hk:Keep (·<w.heap.size) w W)=>hc2.keep hk (kU hk)
   obtain ⟨uo,ut,uv,un,uk⟩:=x
   simp only [ExAt] at hc1
   obtain ⟨uf,ug,uex,rfl,_⟩:=hc1
   obtain ⟨vop,vty,vbits,ven,vek⟩:=y
   simp only [ExAt] at hc2
   obtain ⟨vea,vec,vex,rfl,_⟩:=hc2
   refine gI 49 51 cap1 l1.length hsl1 hin1 (rk ?_)
   refine gD 51 5 (xL uo ut uv un uf uk.length ug) l1.length 0 hsl1 rfl hcell1 (rk ?_)
   refine gI 49 51 cap2 l1.length hsl2 hin2 (rk ?_)
   refine gD 51 5 (xL vop vty vbits ven vea vek.length vec) l1.length 0 hsl2 rfl hcell2 (rk ?_)
   refine gX [xV uo ut uv un uf uk.length ug,xV vop vty vbits ven vea vek.length vec] (.bool (bY (Ex.mk uo ut uv un uk) (Ex.mk vop vty vbits ven vek))) (fun W hk=>H (Ex.mk uo ut uv un uk) (Ex.mk vop vty vbits ven vek) (xL uo ut uv un uf uk.length ug) (xL vop vty vbits ven vea vek.length vec) W (by omega) (by omega) (hc1k W hk) (hc2k W hk)) (rk ?_)
   refine cJ (b:=!(bY (Ex.mk uo ut uv un uk) (Ex.mk vop vty vbits ven vek))) (by kernel_rfl) (fun hss=>?_) (fun hss=>?_)
   ·
    have hne:(Ex.mk uo ut uv un uk)≠(Ex.mk vop vty vbits ven vek):=fun h=>by rw [sameB_t.2 h] at hss;cases hss
    refine rs [] 60 2 ?_
    refine gR (.bool false) (fun W hk=>⟨?_,hk.below⟩)
    rw [b9]
    intro h
    rw [hI1,hI2] at h
    have h2:=(List.cons.inj (aZ h)).1
    exact hne h2
   ·
    have hxy:(Ex.mk uo ut uv un uk)=(Ex.mk vop vty vbits ven vek):=sameB_t.1 (by simpa using hss)
    refine rs [] 60 2 ?_
    refine gJ 17 l1 (Ex.mk uo ut uv un uk) (by omega) ?_
    exact gU _ [(0,vL a1 n1 cap1),(1,vL a2 n2 cap2),(2,bW (.func (.func 88) #[] #[])),(15,vL a1 n1 cap1),(16,vI (n1:Int)),(17,vI ((l1++[(Ex.mk uo ut uv un uk)]).length:Int))] [] gz (fun b hb=>hγ0 b hb) (ih (l1++[(Ex.mk uo ut uv un uk)],l3,m3) ⟨(by show L=(l1++[_])++l3;rw [hI1];simp),(by show M=(l1++[_])++m3;rw [hI2,← hxy];simp)⟩ lS1)
theorem aE9:∀ (N:Nat) (e1 e2:Ex) (cs1 cs2:List Value) (w:World),wgt e1≤N→wgt e1≤1099511627776→ExAt (·<w.heap.size) w e1 cs1→ExAt (·<w.heap.size) w e2 cs2→
  CB 88 #[.agg cs1.toArray,.agg cs2.toArray] w (.bool (bY e1 e2)):=by
 intro N
 induction N with
 | zero=>intro e1 e2 cs1 cs2 w h;have:=fS e1;omega
 | succ N ihN=>
   intro e1 e2 cs1 cs2 w hN hbd hat1 hat2
   obtain ⟨uo,ut,uv,un,uk⟩:=e1
   obtain ⟨vop,vty,vbits,ven,vek⟩:=e2
   simp only [ExAt] at hat1 hat2
   obtain ⟨uf,ug,uxs,rfl,uhs,uht⟩:=hat1
   obtain ⟨vea,vec,vxs,rfl,vhs,vht⟩:=hat2
   simp only [wgt] at hN hbd
   refine eN [xV uo ut uv un uf uk.length ug,xV vop vty vbits ven vea vek.length vec] Tryz.func88 (fun γ0 hγ0=>?_)
   refine rs [11] 60 0 ?_
   rcases aJ (intEq uo vop) with h1 | h1
   rotate_left
   ·
    refine gS 9 (x := .bool (intEq uo vop)) (.bool false) (by rw [h1]) ?_
    refine gS 10 (x := .bool (intEq uo vop)) (.bool false) (by rw [h1]) (rs [] 60 4 ?_)
    refine gR (.bool false) (fun W hk=>⟨?_,hk.below⟩)
    rw [b9]
    intro h
    injection h with e1 e2 e3 e4 e5
    rw [intEq_eq] at h1;simp_all
   refine gS 9 (x := .bool (intEq uo vop)) (.bool true) (by rw [h1]) ?_
   refine gS 10 (x := .bool (intEq uo vop)) (.bool true) (by rw [h1]) (rs [15] 60 0 ?_)
   refine gV (.bool (vEq ut uv vty vbits)) (S:=do eqGuard .eql 42 (.tmp 12) (.tmp 14) (.agg #[n8 ut,n6 uv]) (.agg #[n8 vty,n6 vbits]);binOp .eql 42 (.agg #[n8 ut,n6 uv]) (.agg #[n8 vty,n6 vbits])) (fun W _=>vY _ _ _ _ _ _ W) (rs [18] 60 0 ?_)
   rcases aJ (vEq ut uv vty vbits) with h2 | h2
   rotate_left
   ·
    refine gS 15 (x := .bool (vEq ut uv vty vbits)) (.bool false) (by rw [h2]) ?_
    refine gS 16 (x := .bool (vEq ut uv vty vbits)) (.bool false) (by rw [h2]) ?_
    refine gS 17 (x := .bool (vEq ut uv vty vbits)) (.bool false) (by rw [h2]) (rs [] 60 4 ?_)
    refine gR (.bool false) (fun W hk=>⟨?_,hk.below⟩)
    rw [b9]
    intro h
    injection h with e1 e2 e3 e4 e5
    simp only [vEq,intEq_eq] at h2;simp_all
   refine gS 15 (x := .bool (vEq ut uv vty vbits)) (.bool true) (by rw [h2]) ?_
   refine gS 16 (x := .bool (vEq ut uv vty vbits)) (.bool true) (by rw [h2]) ?_
   refine gS 17 (x := .bool (vEq ut uv vty vbits)) (.bool true) (by rw [h2]) (rs [25] 60 0 ?_)
   rcases aJ (bEqL un ven) with h3 | h3
   rotate_left
   ·
    refine gS 22 (x := .bool (bEqL un ven)) (.bool false) (by rw [h3]) ?_
    refine gS 23 (x := .bool (bEqL un ven)) (.bool false) (by rw [h3]) ?_
    refine gS 24 (x := .bool (bEqL un ven)) (.bool false) (by rw [h3]) (rs [] 60 4 ?_)
    refine gR (.bool false) (fun W hk=>⟨?_,hk.below⟩)
    rw [b9]
    intro h
    injection h with e1 e2 e3 e4 e5
    rw [bEqL_eq] at h3;simp_all
   refine gS 22 (x := .bool (bEqL un ven)) (.bool true) (by rw [h3]) ?_
   refine gS 23 (x := .bool (bEqL un ven)) (.bool true) (by rw [h3]) ?_
   refine gS 24 (x := .bool (bEqL un ven)) (.bool true) (by rw [h3]) (rk ?_)
   refine gX [.slice uf uk.length ug,.slice vea vek.length vec,.func (.func 88) #[] #[]] (.bool (bY uk vek)) (fun W hk=>aQ7 N ihN uk vek _ _ _ _ _ _ _ _ W rfl rfl (by omega) (by omega) ((uhs.keep hk).mono (kU hk)) ((vhs.keep hk).mono (kU hk)) (uht.keep hk (kU hk)) (vht.keep hk (kU hk))) (rk ?_)
   refine gR (.bool (bY uk vek)) (fun W hk=>⟨?_,hk.below⟩)
   have g1:uo=vop:=by rw [intEq_eq] at h1;simpa using h1
   have g2:ut=vty∧uv=vbits:=by simp only [vEq,intEq_eq] at h2;simpa using h2
   have g3:un=ven:=by rw [bEqL_eq] at h3;simpa using h3
   obtain ⟨g4,g5⟩:=g2
   rcases aJ (bY uk vek) with hq | hq
   · rw [hq,sameB_t.2]
     rw [g1,g3,g4,g5,sameB_t.1 hq]
   · rw [hq,b9]
     intro h
     injection h with e1 e2 e3 e4 e5
     rw [sameB_t.2 e5] at hq
     cases hq
end
end Go.Proofs.YtijopiphkgddhaaGreatDoor
