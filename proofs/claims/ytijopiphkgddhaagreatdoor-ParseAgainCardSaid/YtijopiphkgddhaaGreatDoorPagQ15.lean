/- Texts of this proof, one behind the other. Conditions: those in each theorem. -/
import Derived.Test.YtijopiphkgddhaaGreatDoorPagQ1
import Derived.Test.YtijopiphkgddhaaGreatDoorPagQ14
import Derived.Test.YtijopiphkgddhaaGreatDoorPagQ3
import Derived.Test.YtijopiphkgddhaaGreatDoorPagQ2
import Derived.Test.YtijopiphkgddhaaGreatDoorPagQ10
import Derived.Test.YtijopiphkgddhaaGreatDoorPagQ9
set_option linter.unusedVariables false
set_option linter.unusedSimpArgs false
section
namespace Go.Proofs
open Go.Shelf Go.RowKit
section
variable {P:Program} {ρ:Ren}
set_option maxHeartbeats 1000000 in
set_option maxRecDepth 100000 in
theorem aRg (L:Lays.n240 P ρ) (X:Builder.X72 P ρ) (T:TypeId) (hT:liesAt P P.depth T (2 / P.cellsOf T) 0 (ρ.t 72) 1=true) (b:Nat) (w:World) (h0:w.cell? ⟨b,0,none⟩=some (.pointer none)) (hsh:w.shape? b=some (T,2)) (hfz:w.frozen? ⟨b,0,none⟩=false):
  Calls P (ρ.f 240) #[.pointer (some ⟨b,0,none⟩)] w fun e w'=>e = .returned (.tuple #[])∧w'=w.setCell ⟨b,0,none⟩ (.pointer (some ⟨b,0,none⟩)):=by
 obtain ⟨j,hj,hjs⟩:=aC X.sizeBuilder
 have mixed:=L.mixed
 have t72:=L.t72;have a72:=L.a72;have z72:=L.z72;have v72:=L.v72;have u72:=run_underlying L.t72
 have t70:=L.t70;have a70:=L.a70;have z70:=L.z70;have v70:=L.v70;have u70:=run_underlying L.t70
 have t9:=L.t9;have a9:=L.a9;have z9:=L.z9;have v9:=L.v9;have u9:=run_underlying L.t9
 have t4:=L.t4;have a4:=L.a4;have z4:=L.z4;have v4:=L.v4;have u4:=run_underlying L.t4
 have t164:=L.t164;have a164:=L.a164;have z164:=L.z164;have v164:=L.v164;have u164:=run_underlying L.t164
 go_enter L.f240,Body.n240_ntmps ρ
 go_wp2
 rw [Lib.run_to_unsafe w ⟨b,0,none⟩ L.t70 L.t164 hj (by rw [hjs];decide) hsh (Nat.zero_lt_succ 1)]
 simp only [Result.andThen]
 rw [Oper.upon_value]
 go_wp2
 rw [run_callFunc_extern L.f276 (by kernel_rfl) (by kernel_rfl) (by kernel_rfl) (e:=Extern.AbiNoEscape.same) (by kernel_rfl)]
 rw [Lib.run_noEscape]
 simp only [Result.andThen]
 rw [Oper.upon_value]
 go_wp2
 rw [Lib.run_from_unsafe w ⟨b,0,none⟩ L.t164 L.t70 hj hsh hT]
 simp only [Result.andThen]
 rw [Oper.upon_value]
 go_wp2
 go_end0
 exact ⟨rfl,rfl⟩
set_option maxHeartbeats 2000000 in
set_option maxRecDepth 100000 in
theorem aEt (L:Lays.n169 P ρ) (X:Builder.Extra P ρ) (T:TypeId) (b n cap:Nat) (ao q:Option Addr) (p:Value) (r:ByteArray) (w w2:World) (hbk:w.heap[b]?=some (.cells #[p,.slice ao n cap] T (0,0)))
  (hSD:(Builtin.unsafeSliceData_ #[(ρ.t 37)] (ρ.t 127) #[.slice ao n cap]).run P w.drew = .ok (.pointer q) w.drew)
  (hUS:(Builtin.unsafeString_ #[(ρ.t 127),(ρ.t 3)] (ρ.t 9) #[.pointer q,.int .i64 n]).run P w.drew = .ok (.string r) w2):
  Calls P (ρ.f 169) #[.pointer (some ⟨b,0,none⟩)] w fun e w'=>e = .returned (.string r)∧w'=w2:=by
 have c1:w.drew.cell? ⟨b,1,none⟩=some (.slice ao n cap):=by
  have:w.drew.heap[b]?=some (.cells #[p,.slice ao n cap] T (0,0)):=hbk
  rw [Lib.cell_of_heap this];rfl
 have mixed:=L.mixed
 have t72:=L.t72;have a72:=L.a72;have z72:=L.z72;have v72:=L.v72;have u72:=run_underlying L.t72
 have t70:=L.t70;have a70:=L.a70;have z70:=L.z70;have v70:=L.v70;have u70:=run_underlying L.t70
 have t37:=L.t37;have a37:=L.a37;have z37:=L.z37;have v37:=L.v37;have u37:=run_underlying L.t37
 have t127:=L.t127;have a127:=L.a127;have z127:=L.z127;have v127:=L.v127;have u127:=run_underlying L.t127
 have t3:=L.t3;have a3:=L.a3;have z3:=L.z3;have v3:=L.v3;have u3:=run_underlying L.t3
 have t9:=L.t9;have a9:=L.a9;have z9:=L.z9;have v9:=L.v9;have u9:=run_underlying L.t9
 have t5:=X.t5;have a5:=X.a5;have z5:=X.z5;have v5:=X.v5;have u5:=run_underlying X.t5
 go_enter L.f169,Body.n169_ntmps ρ
 go_wp2
 go_region_o
 all_goals (go_wp2;go_ret;exact ⟨rfl,rfl⟩)
end
end Go.Proofs
namespace Go.Proofs.YtijopiphkgddhaaGreatDoor
open Go.RowKit Go.As
def Bu (b:Nat) (l:List UInt8) (w:World):Prop:=∃ p ao n cap,(p = .pointer none∨p = .pointer (some ⟨b,0,none⟩))∧w.heap[b]?=some (.cells #[p,.slice ao n cap] 70 (0,0))∧
 w.ownsRow 0 5 1 (.slice ao n cap) l.length (Lib.byteCells l)∧(Value.slice ao n cap).ownBlock≠some b∧(l=[]→ao=none)
def BuF (b:Nat) (w:World) (k:Nat):Prop:=k=b∨∃ p v t fz,w.heap[b]?=some (.cells #[p,v] t fz)∧v.ownBlock=some k
theorem BuF.at_ {b:Nat} {p v:Value} {t:TypeId} {fz:Nat×Nat} {w:World} (h:w.heap[b]?=some (.cells #[p,v] t fz)) {k:Nat}:BuF b w k↔k=b∨v.ownBlock=some k:=by
 constructor
 · rintro (rfl | ⟨p',v',t',fz',h1,h2⟩)
   · exact .inl rfl
   · rw [h] at h1
     simp only [Option.some.injEq,Obj.cells.injEq,Array.mk.injEq,List.cons.injEq] at h1
     rw [← h1.1.2.1] at h2
     exact .inr h2
 · rintro (rfl | h1)
   · exact .inl rfl
   · exact .inr ⟨_,_,_,_,h,h1⟩
structure WrR (b:Nat) (l:List UInt8) (w w':World):Prop where
 bu:Bu b l w'
 kp:Sy.Keep (fun k=>k<w.heap.size∧¬ BuF b w k) w w'
 old:∀ k,BuF b w' k→BuF b w k∨w.heap.size≤k
theorem aTb:liesAt Tryz.prog Tryz.prog.depth 70 (2 / Tryz.prog.cellsOf 70) 0 68 1=true:=by kernel_rfl
theorem aOw {w:World} {b:Nat} {p q v:Value} {t:TypeId} (h:w.heap[b]?=some (.cells #[p,v] t (0,0))):(w.setCell ⟨b,0,none⟩ q).heap[b]?=some (.cells #[q,v] t (0,0)):=by
 have hlt:=(Array.getElem?_eq_some_iff.1 h).1
 simp [World.setCell,Array.getElem?_modify,h]
theorem aNp (w:World) (b o:Nat) (q:Value):Sy.Keep (fun k=>k<w.heap.size∧k≠b) w (w.setCell ⟨b,o,none⟩ q):=
 ⟨rfl,rfl,rfl,by simp [World.setCell],fun k hk=>Below.heap_setCell _ _ _ _ (fun e=>hk.2 (by simp [e]))⟩
theorem aFe (b:Nat) (p v:Value) (w:World) (hp:p = .pointer none∨p = .pointer (some ⟨b,0,none⟩)) (h:w.heap[b]?=some (.cells #[p,v] 70 (0,0))):
  Calls Tryz.prog 50 #[.pointer (some ⟨b,0,none⟩)] w fun e w'=>e = .returned (.tuple #[])∧w'.heap[b]?=some (.cells #[.pointer (some ⟨b,0,none⟩),v] 70 (0,0))∧Sy.Keep (fun k=>k<w.heap.size∧k≠b) w w':=by
 have c0:w.cell? ⟨b,0,none⟩=some p:=by rw [Lib.cell_of_heap h];rfl
 rcases hp with rfl | rfl
 · refine (aRg (L:={ Tryz.lays105 with }) Tryz.Builder_Extra_105.toX72 70 aTb b w c0 (by simp [World.shape?,h]) (Lib.frozen_of_heap h 0)).mono ?_
   rintro e w' ⟨rfl,rfl⟩
   exact ⟨rfl,aOw h,aNp _ _ _ _⟩
 · refine (Any.Builder_copyCheck_used (L:={ Tryz.lays105 with }) Tryz.Builder_Extra_105.toX72 b w c0).mono ?_
   rintro e w' ⟨rfl,rfl⟩
   exact ⟨rfl,h,Sy.Keep.refl _ _⟩
end Go.Proofs.YtijopiphkgddhaaGreatDoor
end
namespace Go.Proofs.YtijopiphkgddhaaGreatDoor
open Go.RowKit Go.As
section
theorem yJ {w W:World} {e:TypeId} {v:Value} {n:Nat} {xs:List Value} (h:w.ownsRow 0 e 1 v n xs) (hk:∀ k,v.ownBlock=some k→W.heap[k]?=w.heap[k]?):W.ownsRow 0 e 1 v n xs:=by
 refine ⟨h.1,?_⟩
 rcases h.2 with hn | ⟨g,cap,cur,rfl,hb,hgg,rest⟩
 · exact .inl hn
 · exact .inr ⟨g,cap,cur,rfl,hb,(hk g rfl).trans hgg,rest⟩
theorem aEr {w:World} {e:TypeId} {v:Value} {n:Nat} {xs:List Value} (h:w.ownsRow 0 e 1 v n xs):∃ ao cap,v = .slice ao n cap:=by
 rcases h.2 with ⟨rfl,rfl⟩ | ⟨g,cap,cur,rfl,_⟩
 · exact ⟨_,_,rfl⟩
 · exact ⟨_,_,rfl⟩
theorem aQb (ty:TypeId) (ao:Option Addr) (n cap:Nat) (l s:List UInt8) (w:World) (hown:w.ownsRow 0 5 1 (.slice ao n cap) l.length (Lib.byteCells l)) (hlen:l.length+s.length≤140737488355328) (hnil:l=[]→ao=none):
  ∃ ao' n' cap' w',(Builtin.append_ #[66,9] ty #[.slice ao n cap,.string (str s)]).run Tryz.prog w = .ok (.slice ao' n' cap') w'∧w'.ownsRow 0 5 1 (.slice ao' n' cap') (l.length+s.length) (Lib.byteCells (l++s))∧
    w.grownBy w' (Value.slice ao n cap).ownBlock∧yI w (.slice ao n cap) (.slice ao' n' cap')∧(l++s=[]→ao'=none):=by
 obtain ⟨v',w',h1,h2,h3,h4⟩:=aI7 (P:=Tryz.prog) 0 66 9 ty 5 (by kernel_rfl) (by kernel_rfl) (by kernel_rfl) _ _ _ hown s hlen (Nat.zero_le _)
 obtain ⟨i,hi,hz,hs,hb⟩:=info_parts (P:=Tryz.prog) (e:=5) (z := .int .u8 0) (size:=1) (bytes:=1) (by kernel_rfl)
 obtain ⟨v2,w2,g1,-,-,g4⟩:=Lib.run_append_own_string (P:=Tryz.prog) w 0 66 9 ty 5 i (by kernel_rfl) (by kernel_rfl) hi hz hs hb _ _ _ hown (str s) (by rw [str_size];unfold maxLen;omega) (by rw [str_size];omega) (Nat.zero_le _)
 rw [h1] at g1
 injection g1 with e1 e2
 subst e1 e2
 obtain ⟨ao',cap',rfl⟩:=aEr h2
 have e:Lib.byteCells l++byt s=Lib.byteCells (l++s):=by simp [Lib.byteCells,byt]
 rw [e] at h2
 refine ⟨ao',_,cap',w',h1,h2,h3,h4,fun hls=>?_⟩
 obtain ⟨rfl,rfl⟩:=List.append_eq_nil_iff.1 hls
 have hao:=hnil rfl
 subst hao
 have h5:n=0∧cap=0:=by
  rcases hown.2 with ⟨h6,_⟩ | ⟨g,c,cur,h6,_⟩
  · injection h6 with _ a b
    exact ⟨a,b⟩
  · cases h6
 obtain ⟨rfl,rfl⟩:=h5
 have:=g4.2 ⟨rfl,rfl⟩
 injection this
theorem aDw {w:World} {e:TypeId} {v:Value} {n:Nat} {xs:List Value} (h:w.ownsRow 0 e 1 v n xs) {k:Nat} (hk:v.ownBlock=some k):k<w.heap.size:=(h.lt k hk).2
open Go.Sy in
set_option maxRecDepth 100000 in
theorem aBz (b:Nat) (l s:List UInt8) (w:World) (hb:Bu b l w) (hlen:l.length+s.length≤140737488355328):
  Calls Tryz.prog 18 #[.pointer (some ⟨b,0,none⟩),.string (str s)] w fun e w'=>e = .returned (.tuple #[.int .i64 s.length,.nilIface])∧WrR b (l++s) w w':=by
 obtain ⟨p,ao,n,cap,hp,hbk,hown,hne,hnil⟩:=hb
 have hblt:b<w.heap.size:=(Array.getElem?_eq_some_iff.1 hbk).1
 refine Sy.enter (vs:=[.pointer (some ⟨b,0,none⟩),.string (str s)]) p4 Tryz.func18 rfl (fun γ=>vE _) rfl (fun γ0 hγ0=>?_)
 refine rk ?_
 refine pF (bV _ _) [.pointer (some ⟨b,0,none⟩)] (fun k=>k=b) (Pr:=fun w1 r w2=>r = .tuple #[]∧w2.heap[b]?=some (.cells #[.pointer (some ⟨b,0,none⟩),.slice ao n cap] 70 (0,0))) (by kernel_rfl) (by kernel_rfl) (by kernel_rfl) (by kernel_rfl) (fun k e=>by subst e;exact hblt)
  (fun W hk=>(aFe b p (.slice ao n cap) W hp ((hk.block b hblt).trans hbk)).mono fun e w' ⟨h1,h2,h3⟩=>⟨_,h1,⟨rfl,h2⟩,h3⟩) ?_
 rintro w1 r w2 B2 hk1 ⟨rfl,hb2⟩ hk2 hk02 hB2 hB2n hB2s
 refine rk ?_
 have hog:∀ k,(Value.slice ao n cap).ownBlock=some k→k<w.heap.size:=fun k hk=>aDw hown hk
 have hw2:∀ W,Keep B2 w2 W→∀ k,k<w.heap.size→k≠b→W.heap[k]?=w.heap[k]?:=fun W hk k h1 h2=>
  (hk.block k (hB2 k h1)).trans (hk02.block k ⟨h1,h2⟩)
 have hbW:∀ W,Keep B2 w2 W→W.heap[b]?=some (.cells #[.pointer (some ⟨b,0,none⟩),.slice ao n cap] 70 (0,0)):=fun W hk=>(hk.block b (hB2 b hblt)).trans hb2
 have hs2:=hk02.size
 refine gV (.slice ao n cap) (S:=Instr.loadAt 66 (.pointer (some ⟨b,1,none⟩))) (fun W hk=>yD (o:=0) (j:=1) (by kernel_rfl) (by rw [Lib.cell_of_heap (hbW W hk)];rfl)) (rs [14] 60 0 ?_)
 refine aQs .append [66,9] [.slice ao n cap,.string (str s)] (fun k=>(Value.slice ao n cap).ownBlock=some k)
  (Pr:=fun W r W'=>∃ ao' n' cap',r = .slice ao' n' cap'∧W'.ownsRow 0 5 1 r (l.length+s.length) (Lib.byteCells (l++s))∧W.grownBy W' (Value.slice ao n cap).ownBlock∧yI W (.slice ao n cap) r∧(l++s=[]→ao'=none))
  (by kernel_rfl) (by kernel_rfl) (fun k hk=>hB2 k (hog k hk)) (fun W hk hs ty cs=>?g2) ?g3
 case g2=>
  obtain ⟨ao',n',cap',W',h1,h2,h3,h4,h5⟩:=aQb ty ao n cap l s W (yJ hown fun k hk2=>hw2 W hk k (hog k hk2) (fun e=>hne (e ▸ hk2))) hlen hnil
  refine ⟨_,W',?_,⟨ao',n',cap',rfl,h2,h3,h4,h5⟩,⟨h3.os,h3.tape,h3.output,h3.size,fun k hk2=>h3.block k hk2.1 (fun e=>hk2.2 e.symm)⟩⟩
  simp only [builtin,Sem.run_bind,h1,Result.andThen_ok,Sem.run_pure]
 rintro w3 r w4 B4 hk3 ⟨ao',n',cap',rfl,hown',hgrow,hsn,hnil'⟩ hk4 hk24 hB4 hB4n hB4s
 have hb4:w4.heap[b]?=some (.cells #[.pointer (some ⟨b,0,none⟩),.slice ao n cap] 70 (0,0)):=(hk24.block b ⟨hB2 b hblt,hne⟩).trans hb2
 have hbnew:(Value.slice ao' n' cap').ownBlock≠some b:=Lib.ownBlock_ne hown' hb4 (by decide)
 refine rk ?_
 have hb4k:∀ k,(Value.slice ao' n' cap').ownBlock=some k→B4 k:=fun k hk=>(hsn k hk).elim (fun h=>hB4 _ (hB2 _ (hog k h))) (fun h=>hB4n k h (aDw hown' hk))
 refine eU 66 (.pointer (some ⟨b,1,none⟩)) (.slice ao' n' cap') (fun k=>k=b) (Pr:=fun W W'=>W'.heap[b]?=some (.cells #[.pointer (some ⟨b,0,none⟩),.slice ao' n' cap'] 70 (0,0))) (by kernel_rfl) (by kernel_rfl) (fun k e=>by subst e;exact hB4 _ (hB2 _ hblt)) (fun W hk=>?g4) ?g5
 case g4=>
  have hW:=(hk.block b (hB4 _ (hB2 _ hblt))).trans hb4
  refine ⟨_,aLs (o:=1) (by kernel_rfl) hW (by simp) rfl rfl,setRow_heap _ _ _ _ _ _ hW,⟨rfl,rfl,rfl,by simp,fun k hk=>setRow_other _ _ _ _ hk.2⟩⟩
 rintro w5 w6 B6 hk5 hb6 hk6 hk46 hB6 hB6s
 refine rk ?_
 have hs4:=hk24.size
 have hs6:=hk46.size
 have hs3:=hk3.size
 refine gR (.tuple #[.int .i64 (str s).size,.nilIface]) (fun W hk=>⟨by rw [str_size],⟨?_,?_,?_⟩⟩)
 · refine ⟨_,ao',n',cap',.inr rfl,(hk.block b (hB6 _ (hB4 _ (hB2 _ hblt)))).trans hb6,?_,hbnew,hnil'⟩
   have:=yJ hown' (W:=W) fun k hk2=>(hk.block k (hB6 k (hb4k k hk2))).trans (hk46.block k ⟨hb4k k hk2,fun e=>hbnew (e ▸ hk2)⟩)
   rw [aA]
   exact this
 · refine ⟨hk.os.trans (hk46.os.trans (hk24.os.trans hk02.os)),hk.tape.trans (hk46.tape.trans (hk24.tape.trans hk02.tape)),hk.output.trans (hk46.output.trans (hk24.output.trans hk02.output)),by have:=hk.size;omega,fun k hk2=>?_⟩
   have hnb:k≠b:=fun e=>hk2.2 (.inl e)
   have hno:¬ (Value.slice ao n cap).ownBlock=some k:=fun e=>hk2.2 ((BuF.at_ hbk).2 (.inr e))
   exact (hk.block k (hB6 _ (hB4 _ (hB2 _ hk2.1)))).trans ((hk46.block k ⟨hB4 _ (hB2 _ hk2.1),hnb⟩).trans ((hk24.block k ⟨hB2 _ hk2.1,hno⟩).trans (hk02.block k ⟨hk2.1,hnb⟩)))
 · intro k hk2
   rcases (BuF.at_ ((hk.block b (hB6 _ (hB4 _ (hB2 _ hblt)))).trans hb6)).1 hk2 with h | h
   · exact .inl (.inl h)
   · rcases hsn k h with h | h
     · exact .inl ((BuF.at_ hbk).2 (.inr h))
     · exact .inr (by omega)
theorem Bu.slice {b:Nat} {l:List UInt8} {w:World} (h:Bu b l w):∃ p ao cap,(p = .pointer none∨p = .pointer (some ⟨b,0,none⟩))∧w.heap[b]?=some (.cells #[p,.slice ao l.length cap] 70 (0,0))∧
  w.ownsRow 0 5 1 (.slice ao l.length cap) l.length (Lib.byteCells l)∧(Value.slice ao l.length cap).ownBlock≠some b∧(l=[]→ao=none):=by
 obtain ⟨p,ao,n,cap,h1,h2,h3,h4,h5⟩:=h
 have:n=l.length:=by
  obtain ⟨_,_,h6⟩:=aEr h3
  injection h6
 subst this
 exact ⟨p,ao,cap,h1,h2,h3,h4,h5⟩
open Go.Sy in
set_option maxRecDepth 100000 in
theorem aPl (b:Nat) (l:List UInt8) (w:World) (hb:Bu b l w):
  Calls Tryz.prog 20 #[.pointer (some ⟨b,0,none⟩)] w fun e w'=>e = .returned (.int .i64 l.length)∧Below w.heap.size w w':=by
 obtain ⟨p,ao,cap,hp,hbk,hown,hne,hnil⟩:=hb.slice
 have hblt:b<w.heap.size:=(Array.getElem?_eq_some_iff.1 hbk).1
 refine Sy.enter (vs:=[.pointer (some ⟨b,0,none⟩)]) p4 Tryz.func20 rfl (fun γ=>vE _) rfl (fun γ0 hγ0=>?_)
 refine rk ?_
 refine gV (.slice ao l.length cap) (S:=Instr.loadAt 66 (.pointer (some ⟨b,1,none⟩))) (fun W hk=>yD (o:=0) (j:=1) (by kernel_rfl) (by rw [Lib.cell_of_heap ((hk.block b hblt).trans hbk)];rfl)) (rk ?_)
 exact gR (.int .i64 l.length) (fun W hk=>⟨rfl,hk.below⟩)
theorem aIt (b:Nat) (l:List UInt8) (w:World) (hb:Bu b l w):
  Calls Tryz.prog 21 #[.pointer (some ⟨b,0,none⟩)] w fun e w'=>e = .returned (.string (str l))∧Sy.Keep (fun k=>k<w.heap.size∧¬ BuF b w k) w w':=by
 obtain ⟨p,ao,cap,hp,hbk,hown,hne,hnil⟩:=hb.slice
 have k0:Sy.Keep (fun k=>k<w.heap.size∧¬ BuF b w k) w w.drew:=(Sy.Keep.refl _ w).drew
 by_cases h0:l=[]
 · subst h0
   obtain rfl:=hnil rfl
   refine (aEt (L:={ Tryz.lays105 with }) Tryz.Builder_Extra_105 70 b 0 cap none none p (str []) w w.drew hbk rfl (Lib.run_unsafeString_none w.drew _ _ _ none)).mono ?_
   rintro e w' ⟨rfl,rfl⟩
   exact ⟨rfl,k0⟩
 · have hl0:l.length≠0:=by simpa using h0
   obtain ⟨g,cap',cur,hv,-,hg,hnc,hcm,hcs,htake⟩:∃ g cap' cur,Value.slice ao l.length cap = .slice (some ⟨g,0,none⟩) l.length cap'∧0≤g∧w.heap[g]?=some (.cells cur 5 (0,0))∧l.length≤cap'∧cap'≤maxLen∧cur.size=cap'*1∧cur.toList.take (l.length*1)=Lib.byteCells l:=by
    rcases hown.2 with ⟨_,hz⟩ | ⟨g,cap',cur,hv,r⟩
    · exact absurd hz hl0
    · exact ⟨g,cap',cur,hv,r⟩
   injection hv with e1 _ e3
   subst e1 e3
   refine (aEt (L:={ Tryz.lays105 with }) Tryz.Builder_Extra_105 70 b l.length cap (some ⟨g,0,none⟩) (some ⟨g,0,none⟩) p (str l) w (w.drew.freeze ⟨g,0,none⟩ l.length) hbk (Lib.run_unsafeSliceData_row _ _ _ _ _ _ (by omega)) ?_).mono ?_
   · refine Lib.run_unsafeString_row w.drew _ _ _ 5 (by kernel_rfl) (by kernel_rfl) g cur.size (by have hg':w.drew.heap[g]?=some (.cells cur 5 (0,0)):=hg;simp [World.shape?,hg']) l h0 (by omega) (by unfold maxLen at hcm;omega) ?_
     intro j x hx
     exact hown.cells (g:=g) rfl j (.int .u8 x.toNat) (by simp [Lib.byteCells,hx])
   · rintro e w' ⟨rfl,rfl⟩
     exact ⟨rfl,k0.freeze (p:=⟨g,0,none⟩) (fun h=>h.2 ((BuF.at_ hbk).2 (.inr rfl))) _⟩
structure Ch (b:Nat) (l:List UInt8) (A:Nat→Prop) (win w:World) (B:Nat→Prop):Prop where
 bu:Bu b l w
 bB:∀ k,BuF b w k→B k
 AB:∀ k,A k→B k
 kp:Sy.Keep A win w
 old:∀ k,BuF b w k→BuF b win k∨win.heap.size≤k
 A0:∀ k,A k→k<win.heap.size∧¬ BuF b win k
theorem Ch.disj {b:Nat} {l:List UInt8} {A B:Nat→Prop} {win w:World} (h:Ch b l A win w B) {k:Nat} (hA:A k):¬ BuF b w k:=fun hF=>by
 have:=h.A0 k hA
 rcases h.old k hF with h1 | h1
 · exact this.2 h1
 · omega
def Out (b:Nat) (w:World) (k:Nat):Prop:=k<w.heap.size∧¬ BuF b w k
theorem Bu.at_ {b:Nat} {l:List UInt8} {w W:World} (h:Bu b l w) (hk:∀ k,BuF b w k→W.heap[k]?=w.heap[k]?):Bu b l W∧(∀ k,BuF b W k↔BuF b w k):=by
 obtain ⟨p,ao,cap,h1,h2,h3,h4,h5⟩:=h.slice
 have h6:=(hk b (.inl rfl)).trans h2
 exact ⟨⟨p,ao,_,cap,h1,h6,yJ h3 fun k hk2=>hk k ((BuF.at_ h2).2 (.inr hk2)),h4,h5⟩,fun k=>(BuF.at_ h6).trans (BuF.at_ h2).symm⟩
theorem Bu.lt {b:Nat} {l:List UInt8} {w:World} (h:Bu b l w) {k:Nat} (hk:BuF b w k):k<w.heap.size:=by
 obtain ⟨p,ao,cap,h1,h2,h3,h4,h5⟩:=h.slice
 rcases (BuF.at_ h2).1 hk with rfl | h6
 · exact (Array.getElem?_eq_some_iff.1 h2).1
 · exact aDw h3 h6
theorem Ch.start {b:Nat} {l:List UInt8} {w:World} (h:Bu b l w):Ch b l (Out b w) w w (·<w.heap.size):=
 ⟨h,fun k hk=>h.lt hk,fun k hk=>hk.1,Sy.Keep.refl _ _,fun k hk => .inl hk,fun k hk=>hk⟩
theorem Ch.seen {b:Nat} {l:List UInt8} {A B:Nat→Prop} {win w W:World} (h:Ch b l A win w B) (hk:Sy.Keep B w W):Bu b l W∧(∀ k,BuF b W k↔BuF b w k):=
 h.bu.at_ fun k hF=>hk.block k (h.bB k hF)
theorem Ch.keep {b:Nat} {l:List UInt8} {A B:Nat→Prop} {win w W:World} (h:Ch b l A win w B) (hk:Sy.Keep B w W):Sy.Keep A win W:=h.kp.trans (hk.mono h.AB)
theorem Ch.fin {b:Nat} {l:List UInt8} {B:Nat→Prop} {win w W:World} (h:Ch b l (Out b win) win w B) (hk:Sy.Keep B w W):WrR b l win W:=
 ⟨(h.seen hk).1,h.keep hk,fun k hF=>h.old k (((h.seen hk).2 k).1 hF)⟩
section
open Go.Sy
variable {P:Program} {I:Aux} {B:Nat→Prop} {w0:World} {γ0:Gm} {nt:Nat} {Q:Exit→Act→World→Prop} {g:Cfg}
theorem aKf (cx:Cx P I B w0) {f:FuncId} (xs:List Value) (b:Nat) (t:List UInt8) (r0:Value) {l:List UInt8} {A:Nat→Prop} {win:World} (hch:Ch b l A win w0 B) (h:dR P nt g=some (f,xs.map bW)) (hbod:dJ P f=some true) (hx:d8 (xs.map bW)=some xs)
  (hown:eL eA g.s.h=true)
  (hc:∀ w,Keep B w0 w→Bu b l w→(∀ k,A k→Out b w k)→Calls P f xs.toArray w fun e w'=>e = .returned r0∧WrR b (l++t) w w')
  (hg:∀ w' B',Ch b (l++t) A win w' B'→(∀ k,B k→B' k)→Keep (fun k=>B k∧¬ BuF b w0 k) w0 w'→Sy.Good P B' w' γ0 nt Q (nx0 g (bW r0))):Sy.Good P B w0 γ0 nt Q g:=by
 refine pF cx xs (BuF b w0) (Pr:=fun w r w'=>r=r0∧WrR b (l++t) w w') h hbod hx hown hch.bB (fun w hk=>?_) ?_
 · obtain ⟨h1,h2⟩:=hch.seen hk
   refine (hc w hk h1 (fun k hA=>?_)).mono fun e w' ⟨e1,e2⟩=>⟨r0,e1,⟨rfl,e2⟩,e2.kp.mono fun k hk2=>⟨hk2.1,fun hF=>hk2.2 ((h2 k).1 hF)⟩⟩
   exact ⟨aE (hch.A0 k hA).1 (hch.keep hk).size,fun hF=>hch.disj hA ((h2 k).1 hF)⟩
 · rintro w r w' B' hk ⟨rfl,hR⟩ h1 h2 h3 h4 h5
   refine hg w' B' ⟨hR.bu,fun k hF=>?_,fun k hA=>h3 k (hch.AB k hA),?_,fun k hF=>?_,hch.A0⟩ h3 h2
   · rcases hR.old k hF with h | h
     · exact h3 k (hch.bB k (((hch.seen hk).2 k).1 h))
     · exact h4 k h (hR.bu.lt hF)
   · exact hch.kp.trans (h2.mono fun k hA=>⟨hch.AB k hA,hch.disj hA⟩)
   · rcases hR.old k hF with h | h
     · exact hch.old k (((hch.seen hk).2 k).1 h)
     · exact .inr (bC (bC hch.kp.size hk.size) h)
end
end
end Go.Proofs.YtijopiphkgddhaaGreatDoor
section
namespace Go.Proofs.YtijopiphkgddhaaGreatDoor
open Go.RowKit Go.As Go.Sy
section
variable {B:Nat→Prop} {w0:World} {γ0:Gm} {nt:Nat} {Q:Exit→Act→World→Prop} {g:Cfg}
theorem gH {f:FuncId} (xs:List Value) (b:Nat) (t:List UInt8) (r0:Value) {l:List UInt8} {A:Nat→Prop} {win:World} (hch:Ch b l A win w0 B)
  (hc:∀ w,Keep B w0 w→Bu b l w→(∀ k,A k→Out b w k)→Calls Tryz.prog f xs.toArray w fun e w'=>e = .returned r0∧WrR b (l++t) w w')
  (hg:∀ w' B',Ch b (l++t) A win w' B'→(∀ k,B k→B' k)→Keep (fun k=>B k∧¬ BuF b w0 k) w0 w'→Sy.Good Tryz.prog B' w' γ0 nt Q (nx0 g (bW r0)))
  (h:dR Tryz.prog nt g=some (f,xs.map bW):=by kernel_rfl) (hbod:dJ Tryz.prog f=some true:=by kernel_rfl) (hx:d8 (xs.map bW)=some xs:=by kernel_rfl) (hown:eL eA g.s.h=true:=by kernel_rfl):Sy.Good Tryz.prog B w0 γ0 nt Q g:=
 aKf (bV _ _) xs b t r0 hch h hbod hx hown hc hg
theorem gw (b:Nat) (t:List UInt8) {l:List UInt8} {A:Nat→Prop} {win:World} (hch:Ch b l A win w0 B) (hl:l.length+t.length≤140737488355328)
  (hg:∀ w' B',Ch b (l++t) A win w' B'→(∀ k,B k→B' k)→Keep (fun k=>B k∧¬ BuF b w0 k) w0 w'→Sy.Good Tryz.prog B' w' γ0 nt Q (nx0 g (bW (.tuple #[.int .i64 (t.length:Int),.nilIface]))))
  (h:dR Tryz.prog nt g=some (18,[bW (.pointer (some ⟨b,0,none⟩)),bW (.string (str t))]):=by kernel_rfl) (hx:d8 ([bW (.pointer (some ⟨b,0,none⟩)),bW (.string (str t))])=some [.pointer (some ⟨b,0,none⟩),.string (str t)]:=by kernel_rfl) (hown:eL eA g.s.h=true:=by kernel_rfl):Sy.Good Tryz.prog B w0 γ0 nt Q g:=
 aKf (bV _ _) [.pointer (some ⟨b,0,none⟩),.string (str t)] b t (.tuple #[.int .i64 (t.length:Int),.nilIface]) hch h (by kernel_rfl) hx hown (fun W hk hbu hA=>aBz b l t W hbu hl) hg
end
end Go.Proofs.YtijopiphkgddhaaGreatDoor
end
namespace Go.Proofs.YtijopiphkgddhaaGreatDoor
open Go.RowKit Go.As
section
theorem Tab.out {b:Nat} {l:List UInt8} {w w':World} (h:Tab w) (hb:Bu b l w) (hk:Sy.Keep (Out b w) w w'):Tab w':=by
 unfold Tab Lib.TabIs World.var? at *
 cases hg:Tryz.prog.globalNamed "internal/strconv.uint64pow10" with
 | none=>simp [hg] at h
 | some g=>
   simp only [hg,Option.bind_some] at h ⊢
   have hlt:g<w.heap.size:=by
    rcases aY g w.heap.size with h' | h'
    · exact h'
    · rw [Array.getElem?_eq_none h'] at h;simp at h
   have hno:¬ BuF b w g:=fun hF=>by
    obtain ⟨p,ao,cap,h1,h2,h3,h4,h5⟩:=hb.slice
    rcases (BuF.at_ h2).1 hF with rfl | h6
    · rw [h2] at h
      simp only [Option.some.injEq] at h
      have:=congrArg Array.size h
      simp [Lib.pow10Tab] at this
    · by_cases hl:l=[]
      · rw [h5 hl] at h6;simp [Value.ownBlock] at h6
      · rcases h3.2 with ⟨h7,_⟩ | ⟨g',cap',cur,h7,_,h8,_,_,_,h9⟩
        · rw [h7] at h6;simp [Value.ownBlock] at h6
        · injection h7 with e1
          subst e1
          simp only [Value.ownBlock,Option.some.injEq] at h6
          subst h6
          rw [h8] at h
          simp only [Option.some.injEq] at h
          subst h
          cases l with
          | nil=>exact hl rfl
          | cons x l=>
            have:=congrArg (fun z=>z[0]?) h9
            simp [Lib.byteCells,Lib.pow10Tab,List.getElem?_take] at this
   rw [hk.block g ⟨hlt,hno⟩]
   exact h
theorem zD {kids:List Ex} {ks:List (List UInt8)} {t:List UInt8} {f:List UInt8→List UInt8} (hks:kF kids=some ks) (h:(match (generalizing:=false) ks with | [a]=>some (f a) | _=>none)=some t):∃ x tx,kids=[x]∧exT x=some tx∧t=f tx:=by
 have hl:=qW hks
 match ks,hks,h,hl with
 | [ta],hks,h,hl=>
   injection h with h
   match kids,hks,hl with
   | [x],hks,_=>
     simp only [kF] at hks
     split at hks
     · cases hks
     rename_i tx htx
     injection hks with hks
     injection hks with hks
     subst hks
     exact ⟨x,tx,rfl,htx,h.symm⟩
theorem aTz {kids:List Ex} {ks:List (List UInt8)} {t:List UInt8} {f:List UInt8→List UInt8→List UInt8} (hks:kF kids=some ks) (h:(match (generalizing:=false) ks with | [a,b]=>some (f a b) | _=>none)=some t):∃ x y tx ty,kids=[x,y]∧exT x=some tx∧exT y=some ty∧t=f tx ty:=by
 have hl:=qW hks
 match ks,hks,h,hl with
 | [ta,tb],hks,h,hl=>
   injection h with h
   match kids,hks,hl with
   | [x,y],hks,_=>
     simp only [kF] at hks
     split at hks
     · cases hks
     rename_i tx htx
     split at hks
     · cases hks
     rename_i ts hts
     split at hts
     · cases hts
     rename_i ty' hty
     injection hts with hts
     injection hks with hks
     subst hts
     injection hks with e1 e2
     injection e2 with e2 _
     subst e1 e2
     exact ⟨x,y,_,_,rfl,htx,hty,h.symm⟩
theorem tE {op ty bits:Int} {name t:List UInt8} {kids:List Ex} (h:exT (.mk op ty bits name kids)=some t):
  (op=1∧kids=[]∧dA ty bits=some t)∨(op=2∧kids=[]∧t=name)∨
  (op=18∧∃ x tx,kids=[x]∧exT x=some tx∧t=[105,110,116,40]++(tx++[41]))∨(op=19∧∃ x tx,kids=[x]∧exT x=some tx∧t=[114,101,97,108,40]++(tx++[41]))∨
  (op=16∧∃ x tx,kids=[x]∧exT x=some tx∧t=[45]++tx)∨(op=17∧∃ x tx,kids=[x]∧exT x=some tx∧t=[33]++tx)∨
  ((3≤op∧op≤15)∧∃ x y tx ty',kids=[x,y]∧exT x=some tx∧exT y=some ty'∧t=[40]++(tx++(([32]++fA op++[32])++(ty'++[41])))):=by
 simp only [exT] at h
 split at h
 · cases h
 split at h
 · cases h
 rename_i ks hks
 have hl:=qW hks
 by_cases c1:op=1
 · rw [if_pos c1] at h
   cases ks with
   | nil=>exact .inl ⟨c1,aF hl.symm,h⟩
   | cons _ _=>cases h
 rw [if_neg c1] at h
 by_cases c2:op=2
 · rw [if_pos c2] at h
   cases ks with
   | nil=>
     simp only at h
     split at h
     · injection h with h
       exact .inr (.inl ⟨c2,aF hl.symm,h.symm⟩)
     · cases h
   | cons _ _=>cases h
 rw [if_neg c2] at h
 by_cases c3:3≤op∧op≤15
 · rw [if_pos c3] at h
   obtain ⟨x,y,tx,ty',e1,e2,e3,e4⟩:=aTz (f:=fun a b=>40::(a++(32::(jR op++(32::(b++[41])))))) hks h
   refine .inr (.inr (.inr (.inr (.inr (.inr ⟨c3,x,y,tx,ty',e1,e2,e3,?_⟩)))))
   rw [e4]
   have:fA op=jR op:=by unfold fA;rw [if_neg (by omega),if_neg (by omega)]
   rw [this]
   simp
 rw [if_neg c3] at h
 by_cases c4:op=16
 · rw [if_pos c4] at h
   exact .inr (.inr (.inr (.inr (.inl ⟨c4,zD (f:=fun a=>[45]++a) hks h⟩))))
 rw [if_neg c4] at h
 by_cases c5:op=17
 · rw [if_pos c5] at h
   exact .inr (.inr (.inr (.inr (.inr (.inl ⟨c5,zD (f:=fun a=>[33]++a) hks h⟩)))))
 rw [if_neg c5] at h
 by_cases c6:op=18
 · rw [if_pos c6] at h
   exact .inr (.inr (.inl ⟨c6,zD (f:=fun a=>[105,110,116,40]++(a++[41])) hks h⟩))
 rw [if_neg c6] at h
 by_cases c7:op=19
 · rw [if_pos c7] at h
   exact .inr (.inr (.inr (.inl ⟨c7,zD (f:=fun a=>[114,101,97,108,40]++(a++[41])) hks h⟩)))
 rw [if_neg c7] at h
 cases h
end
section
theorem tW (op:Int):(fA op).length≤2:=by
 have key:∀ (c:Prop) [Decidable c] (a b:List UInt8),a.length≤2→b.length≤2→(if c then a else b).length≤2:=fun c _ a b h1 h2=>by
  by_cases hc:c
  · rw [if_pos hc];exact h1
  · rw [if_neg hc];exact h2
 unfold fA jR
 repeat refine key _ _ _ (by decide) ?_
 decide
open Go.Sy in
set_option maxRecDepth 100000 in
theorem aS3:∀ (N:Nat) (e:Ex) (cs:List Value) (t l:List UInt8) (b:Nat) (w:World),wgt e≤N→exB e≤1000000000000→exR e→Tab w→exT e=some t→Bu b l w→l.length+t.length≤140737488355328→ExAt (Out b w) w e cs→
  Calls Tryz.prog 87 #[nP b,.agg cs.toArray] w fun e w'=>e = .returned (.tuple #[])∧WrR b (l++t) w w':=by
 intro N
 induction N with
 | zero=>
   intro e cs t l b w hN
   have:=fS e
   omega
 | succ N ihN=>
   intro e cs t l b w hN hB hR ht hT hb hlen hat
   obtain ⟨op,ty,bits,name,kids⟩:=e
   simp only [ExAt] at hat
   obtain ⟨a,cap,xs,rfl,hsl,hks⟩:=hat
   simp only [exR] at hR
   obtain ⟨hop,hty',hbit,hkR⟩:=hR
   obtain ⟨bn,rfl⟩:∃ bn:Nat,bits=(bn:Int):=⟨bits.toNat,by omega⟩
   have hbn:bn<18446744073709551616:=by omega
   simp only [wgt] at hN
   simp only [exB] at hB
   have h0:=Ch.start hb
   refine eN [nP b,xV op ty (bn:Int) name a kids.length cap] Tryz.func87 (fun γ0 hγ0=>?_)
   rcases tE hT with ⟨rfl,rfl,hlit⟩ | ⟨rfl,rfl,rfl⟩ | ⟨rfl,x,tx,rfl,htx,rfl⟩ | ⟨rfl,x,tx,rfl,htx,rfl⟩ | ⟨rfl,x,tx,rfl,htx,rfl⟩ | ⟨rfl,x,tx,rfl,htx,rfl⟩ | ⟨⟨o1,o2⟩,x,y,tx,ty',rfl,htx,hty,rfl⟩
   ·
    refine rs [] 60 1 ?_
    refine gM cP (by kernel_rfl) ?_
    refine bZ [] 60 ?_
    refine qB [.agg #[n8 ty,n6 (bn:Int)]] (nT t) (fun W hk=>by have:=aBw ty bn hbn W (ht.below (Keep.below hk));rw [(xX ty bn hbn).2 t hlit] at this;exact this) ?_
    refine bZ [] 60 ?_
    refine qE ?_
    refine rk ?_
    refine gw b (t) h0 (by first | omega | (simp only [aA,aB,aD] at hlen ⊢;omega)) ?_
    intro w1 B1 hc1 _ _
    refine rk ?_
    refine gR (.tuple #[]) (fun W hk=>⟨rfl,?_⟩)
    have:=hc1.fin hk
    simpa only [aK] using this
   ·
    refine rs [] 60 2 ?_
    refine gM cP (by kernel_rfl) ?_
    refine bZ [] 60 ?_
    refine qE ?_
    refine rk ?_
    refine gw b (t) h0 (by first | omega | (simp only [aA,aB,aD] at hlen ⊢;omega)) ?_
    intro w1 B1 hc1 _ _
    refine rk ?_
    refine gR (.tuple #[]) (fun W hk=>⟨rfl,?_⟩)
    have:=hc1.fin hk
    simpa only [aK] using this
   ·
    simp only [ExsAt] at hks
    obtain ⟨c,r,hxs,hc,rfl⟩:=hks
    have hcell0:∀ (j:Nat) (v:Value),c[j]?=some v→xs[0*5+0+j]?=some v:=fun j v hv=>by rw [hxs];simpa using hv
    refine rs [] 60 9 ?_
    refine gw b ([105,110,116,40]) h0 (by first | omega | (simp only [aA,aB,aD] at hlen ⊢;omega)) ?_
    intro w1 B1 hc1 _ _
    refine rk ?_
    refine gI 49 51 cap 0 hsl (show 0<1 by decide) (rk ?_)
    have hxR0:=exRs_mem.1 hkR x (by simp)
    have hcl0:=hc.len
    have hld0:=fun W (hk:Sy.Keep _ _ W)=>d9 (P:=Tryz.prog) (ty:=51) (m:=5) (cs:=c) hsl (by kernel_rfl) (by kernel_rfl) 0 0 hcl0 hcell0 (W:=W) (hc1.keep hk)
    have hcall0:=fun W (hk:Sy.Keep _ _ W) hbu hA=>ihN x c tx (l++[105,110,116,40]) b W (by simp only [cL] at hN;omega) (by simp only [iW] at hB;omega) hxR0 (ht.out hb (hc1.keep hk)) htx hbu (by first | omega | (simp only [aA,aB,aD] at hlen ⊢;omega)) (hc.keep (hc1.keep hk) hA)
    obtain ⟨op0,ty0,bits0,name0,kids0⟩:=x
    simp only [ExAt] at hc
    obtain ⟨a0,cap0,xs0,rfl,_⟩:=hc
    refine gV (xV op0 ty0 bits0 name0 a0 kids0.length cap0) (S:=Instr.loadAt 51 (.pointer (some ⟨gB a,oB a+0*5+0,none⟩))) (fun W hk=>hld0 W hk) (rk ?_)
    refine gH [nP b,xV op0 ty0 bits0 name0 a0 kids0.length cap0] b (tx) (.tuple #[]) hc1 (fun W hk hbu hA=>hcall0 W hk hbu hA) ?_
    intro w2 B2 hc2 _ _
    refine rk ?_
    refine gw b ([41]) hc2 (by first | omega | (simp only [aA,aB,aD] at hlen ⊢;omega)) ?_
    intro w3 B3 hc3 _ _
    refine rk ?_
    refine gR (.tuple #[]) (fun W hk=>⟨rfl,?_⟩)
    have:=hc3.fin hk
    simpa only [aK] using this
   ·
    simp only [ExsAt] at hks
    obtain ⟨c,r,hxs,hc,rfl⟩:=hks
    have hcell0:∀ (j:Nat) (v:Value),c[j]?=some v→xs[0*5+0+j]?=some v:=fun j v hv=>by rw [hxs];simpa using hv
    refine rs [] 60 9 ?_
    refine gw b ([114,101,97,108,40]) h0 (by first | omega | (simp only [aA,aB,aD] at hlen ⊢;omega)) ?_
    intro w1 B1 hc1 _ _
    refine rk ?_
    refine gI 49 51 cap 0 hsl (show 0<1 by decide) (rk ?_)
    have hxR0:=exRs_mem.1 hkR x (by simp)
    have hcl0:=hc.len
    have hld0:=fun W (hk:Sy.Keep _ _ W)=>d9 (P:=Tryz.prog) (ty:=51) (m:=5) (cs:=c) hsl (by kernel_rfl) (by kernel_rfl) 0 0 hcl0 hcell0 (W:=W) (hc1.keep hk)
    have hcall0:=fun W (hk:Sy.Keep _ _ W) hbu hA=>ihN x c tx (l++[114,101,97,108,40]) b W (by simp only [cL] at hN;omega) (by simp only [iW] at hB;omega) hxR0 (ht.out hb (hc1.keep hk)) htx hbu (by first | omega | (simp only [aA,aB,aD] at hlen ⊢;omega)) (hc.keep (hc1.keep hk) hA)
    obtain ⟨op0,ty0,bits0,name0,kids0⟩:=x
    simp only [ExAt] at hc
    obtain ⟨a0,cap0,xs0,rfl,_⟩:=hc
    refine gV (xV op0 ty0 bits0 name0 a0 kids0.length cap0) (S:=Instr.loadAt 51 (.pointer (some ⟨gB a,oB a+0*5+0,none⟩))) (fun W hk=>hld0 W hk) (rk ?_)
    refine gH [nP b,xV op0 ty0 bits0 name0 a0 kids0.length cap0] b (tx) (.tuple #[]) hc1 (fun W hk hbu hA=>hcall0 W hk hbu hA) ?_
    intro w2 B2 hc2 _ _
    refine rk ?_
    refine gw b ([41]) hc2 (by first | omega | (simp only [aA,aB,aD] at hlen ⊢;omega)) ?_
    intro w3 B3 hc3 _ _
    refine rk ?_
    refine gR (.tuple #[]) (fun W hk=>⟨rfl,?_⟩)
    have:=hc3.fin hk
    simpa only [aK] using this
   ·
    simp only [ExsAt] at hks
    obtain ⟨c,r,hxs,hc,rfl⟩:=hks
    have hcell0:∀ (j:Nat) (v:Value),c[j]?=some v→xs[0*5+0+j]?=some v:=fun j v hv=>by rw [hxs];simpa using hv
    refine rs [] 60 9 ?_
    refine gM cP (by kernel_rfl) ?_
    refine bZ [] 60 ?_
    refine qB [n8 16] (nT [45]) (fun W hk=>wY 16 W) ?_
    refine bZ [] 60 ?_
    refine qE ?_
    refine rk ?_
    refine gw b ([45]) h0 (by first | omega | (simp only [aA,aB,aD] at hlen ⊢;omega)) ?_
    intro w1 B1 hc1 _ _
    refine rk ?_
    refine gI 49 51 cap 0 hsl (show 0<1 by decide) (rk ?_)
    have hxR0:=exRs_mem.1 hkR x (by simp)
    have hcl0:=hc.len
    have hld0:=fun W (hk:Sy.Keep _ _ W)=>d9 (P:=Tryz.prog) (ty:=51) (m:=5) (cs:=c) hsl (by kernel_rfl) (by kernel_rfl) 0 0 hcl0 hcell0 (W:=W) (hc1.keep hk)
    have hcall0:=fun W (hk:Sy.Keep _ _ W) hbu hA=>ihN x c tx (l++[45]) b W (by simp only [cL] at hN;omega) (by simp only [iW] at hB;omega) hxR0 (ht.out hb (hc1.keep hk)) htx hbu (by first | omega | (simp only [aA,aB,aD] at hlen ⊢;omega)) (hc.keep (hc1.keep hk) hA)
    obtain ⟨op0,ty0,bits0,name0,kids0⟩:=x
    simp only [ExAt] at hc
    obtain ⟨a0,cap0,xs0,rfl,_⟩:=hc
    refine gV (xV op0 ty0 bits0 name0 a0 kids0.length cap0) (S:=Instr.loadAt 51 (.pointer (some ⟨gB a,oB a+0*5+0,none⟩))) (fun W hk=>hld0 W hk) (rk ?_)
    refine gH [nP b,xV op0 ty0 bits0 name0 a0 kids0.length cap0] b (tx) (.tuple #[]) hc1 (fun W hk hbu hA=>hcall0 W hk hbu hA) ?_
    intro w2 B2 hc2 _ _
    refine rk ?_
    refine gR (.tuple #[]) (fun W hk=>⟨rfl,?_⟩)
    have:=hc2.fin hk
    simpa only [aK] using this
   ·
    simp only [ExsAt] at hks
    obtain ⟨c,r,hxs,hc,rfl⟩:=hks
    have hcell0:∀ (j:Nat) (v:Value),c[j]?=some v→xs[0*5+0+j]?=some v:=fun j v hv=>by rw [hxs];simpa using hv
    refine rs [] 60 9 ?_
    refine gM cP (by kernel_rfl) ?_
    refine bZ [] 60 ?_
    refine qB [n8 17] (nT [33]) (fun W hk=>wY 17 W) ?_
    refine bZ [] 60 ?_
    refine qE ?_
    refine rk ?_
    refine gw b ([33]) h0 (by first | omega | (simp only [aA,aB,aD] at hlen ⊢;omega)) ?_
    intro w1 B1 hc1 _ _
    refine rk ?_
    refine gI 49 51 cap 0 hsl (show 0<1 by decide) (rk ?_)
    have hxR0:=exRs_mem.1 hkR x (by simp)
    have hcl0:=hc.len
    have hld0:=fun W (hk:Sy.Keep _ _ W)=>d9 (P:=Tryz.prog) (ty:=51) (m:=5) (cs:=c) hsl (by kernel_rfl) (by kernel_rfl) 0 0 hcl0 hcell0 (W:=W) (hc1.keep hk)
    have hcall0:=fun W (hk:Sy.Keep _ _ W) hbu hA=>ihN x c tx (l++[33]) b W (by simp only [cL] at hN;omega) (by simp only [iW] at hB;omega) hxR0 (ht.out hb (hc1.keep hk)) htx hbu (by first | omega | (simp only [aA,aB,aD] at hlen ⊢;omega)) (hc.keep (hc1.keep hk) hA)
    obtain ⟨op0,ty0,bits0,name0,kids0⟩:=x
    simp only [ExAt] at hc
    obtain ⟨a0,cap0,xs0,rfl,_⟩:=hc
    refine gV (xV op0 ty0 bits0 name0 a0 kids0.length cap0) (S:=Instr.loadAt 51 (.pointer (some ⟨gB a,oB a+0*5+0,none⟩))) (fun W hk=>hld0 W hk) (rk ?_)
    refine gH [nP b,xV op0 ty0 bits0 name0 a0 kids0.length cap0] b (tx) (.tuple #[]) hc1 (fun W hk hbu hA=>hcall0 W hk hbu hA) ?_
    intro w2 B2 hc2 _ _
    refine rk ?_
    refine gR (.tuple #[]) (fun W hk=>⟨rfl,?_⟩)
    have:=hc2.fin hk
    simpa only [aK] using this
   ·
    simp only [ExsAt] at hks
    obtain ⟨c,r,hxs,hc,d,r2,rfl,hd,rfl⟩:=hks
    have hcell0:∀ (j:Nat) (v:Value),c[j]?=some v→xs[0*5+0+j]?=some v:=fun j v hv=>by
     rw [hxs,bG (by have:=(List.getElem?_eq_some_iff.1 hv).1;omega)];simpa using hv
    have hcell1:∀ (j:Nat) (v:Value),d[j]?=some v→xs[1*5+0+j]?=some v:=fun j v hv=>by
     have:=hc.len
     rw [hxs,aP (by omega),this];simpa using hv
    refine rk ?_
    refine kw op 1 (by omega) (rk ?_)
    refine kw op 2 (by omega) (rs [60] 60 0 ?_)
    refine gF 58 op 18 (by omega) ?_
    refine gF 59 op 18 (by omega) (rk ?_)
    refine kw op 19 (by omega) (rs [] 60 1 ?_)
    refine gw b ([40]) h0 (by first | omega | (simp only [aA,aB,aD] at hlen ⊢;omega)) ?_
    intro w1 B1 hc1 _ _
    refine rk ?_
    refine gI 49 51 cap 0 hsl (show 0<2 by decide) (rk ?_)
    have hxR0:=exRs_mem.1 hkR x (by simp)
    have hcl0:=hc.len
    have hld0:=fun W (hk:Sy.Keep _ _ W)=>d9 (P:=Tryz.prog) (ty:=51) (m:=5) (cs:=c) hsl (by kernel_rfl) (by kernel_rfl) 0 0 hcl0 hcell0 (W:=W) (hc1.keep hk)
    have hcall0:=fun W (hk:Sy.Keep _ _ W) hbu hA=>ihN x c tx (l++[40]) b W (by simp only [cL] at hN;omega) (by simp only [iW] at hB;omega) hxR0 (ht.out hb (hc1.keep hk)) htx hbu (by first | omega | (simp only [aA,aB,aD] at hlen ⊢;omega)) (hc.keep (hc1.keep hk) hA)
    obtain ⟨op0,ty0,bits0,name0,kids0⟩:=x
    simp only [ExAt] at hc
    obtain ⟨a0,cap0,xs0,rfl,_⟩:=hc
    refine gV (xV op0 ty0 bits0 name0 a0 kids0.length cap0) (S:=Instr.loadAt 51 (.pointer (some ⟨gB a,oB a+0*5+0,none⟩))) (fun W hk=>hld0 W hk) (rk ?_)
    refine gH [nP b,xV op0 ty0 bits0 name0 a0 kids0.length cap0] b (tx) (.tuple #[]) hc1 (fun W hk hbu hA=>hcall0 W hk hbu hA) ?_
    intro w2 B2 hc2 _ _
    refine rk ?_
    refine gM cP (by kernel_rfl) ?_
    refine bZ [] 60 ?_
    refine qB [n8 op] (nT (fA op)) (fun W hk=>wY op W) ?_
    refine bZ [21] 60 ?_
    refine qV (nT ([32]++fA op)) (S:=(do eqGuard .add 9 (.const (nT [32])) (.tmp 20) (nT ([32])) (nT (fA op));binOp .add 9 (nT ([32])) (nT (fA op)))) (fun W _=>iG _ _ ([32]) (fA op) (by have:=tW op;simp;omega) W) ?_
    refine bZ [22] 60 ?_
    refine qV (nT ([32]++fA op++[32])) (S:=(do eqGuard .add 9 (.tmp 21) (.const (nT [32])) (nT ([32]++fA op)) (nT ([32]));binOp .add 9 (nT ([32]++fA op)) (nT ([32])))) (fun W _=>iG _ _ ([32]++fA op) ([32]) (by have:=tW op;simp;omega) W) ?_
    refine bZ [] 60 ?_
    refine qE ?_
    refine rk ?_
    refine gw b ([32]++fA op++[32]) hc2 (by first | omega | (simp only [aA,aB,aD] at hlen ⊢;omega)) ?_
    intro w3 B3 hc3 _ _
    refine rk ?_
    refine gI 49 51 cap 1 hsl (show 1<2 by decide) (rk ?_)
    have hxR1:=exRs_mem.1 hkR y (by simp)
    have hcl1:=hd.len
    have hld1:=fun W (hk:Sy.Keep _ _ W)=>d9 (P:=Tryz.prog) (ty:=51) (m:=5) (cs:=d) hsl (by kernel_rfl) (by kernel_rfl) 1 0 hcl1 hcell1 (W:=W) (hc3.keep hk)
    have hcall1:=fun W (hk:Sy.Keep _ _ W) hbu hA=>ihN y d ty' (l++[40]++tx++([32]++fA op++[32])) b W (by simp only [cL] at hN;omega) (by simp only [iW] at hB;omega) hxR1 (ht.out hb (hc3.keep hk)) hty hbu (by first | omega | (simp only [aA,aB,aD] at hlen ⊢;omega)) (hd.keep (hc3.keep hk) hA)
    obtain ⟨op1,ty1,bits1,name1,kids1⟩:=y
    simp only [ExAt] at hd
    obtain ⟨a1,cap1,xs1,rfl,_⟩:=hd
    refine gV (xV op1 ty1 bits1 name1 a1 kids1.length cap1) (S:=Instr.loadAt 51 (.pointer (some ⟨gB a,oB a+1*5+0,none⟩))) (fun W hk=>hld1 W hk) (rk ?_)
    refine gH [nP b,xV op1 ty1 bits1 name1 a1 kids1.length cap1] b (ty') (.tuple #[]) hc3 (fun W hk hbu hA=>hcall1 W hk hbu hA) ?_
    intro w4 B4 hc4 _ _
    refine rk ?_
    refine gw b ([41]) hc4 (by first | omega | (simp only [aA,aB,aD] at hlen ⊢;omega)) ?_
    intro w5 B5 hc5 _ _
    refine rk ?_
    refine gR (.tuple #[]) (fun W hk=>⟨rfl,?_⟩)
    have:=hc5.fin hk
    simpa only [aK] using this
end
section
set_option maxRecDepth 100000
theorem aTe {ty bits:Int} {t:List UInt8} (h:eG ty bits=some t):aFl ty=fL ty:=by
 unfold aFl fL
 by_cases h1:ty=1
 · subst h1;rfl
 by_cases h2:ty=2
 · subst h2;rfl
 by_cases h3:ty=3
 · subst h3;rfl
 unfold eG dA at h
 rw [if_neg h1,if_neg h3,if_neg h1,if_neg h2,if_neg h3] at h
 cases h
open Go.Sy
theorem wC (wd:List UInt8) (v:Vr) (u l:List UInt8) (b:Nat) (w:World) (hR:vrR v) (ht:Tab w) (hT:vrT wd v=some u) (hb:Bu b l w) (hlen:l.length+u.length≤140737488355328):
  Calls Tryz.prog 17 #[nP b,nT wd,.agg #[nT v.name,n8 v.ty,n6 v.bits]] w fun e w'=>e = .returned (.tuple #[])∧WrR b (l++u) w w':=by
 obtain ⟨name,ty,bits⟩:=v
 obtain ⟨_,hb1,hb2⟩:=hR
 simp only at hb1 hb2 ⊢
 obtain ⟨bn,rfl⟩:∃ bn:Nat,bits=(bn:Int):=⟨bits.toNat,by omega⟩
 have hbn:bn<18446744073709551616:=by omega
 unfold vrT at hT
 simp only at hT
 split at hT
 rotate_left
 · cases hT
 rw [Option.map_eq_some_iff] at hT
 obtain ⟨t,hv,rfl⟩:=hT
 have h0:=Ch.start hb
 refine eN [nP b,nT wd,.agg #[nT name,n8 ty,n6 (bn:Int)]] Tryz.func17 (fun γ0 hγ0=>?_)
 refine rs [] 4 0 ?_
 refine gM cP (by kernel_rfl) ?_
 refine bZ [10] 60 ?_
 refine qV (nT (wd++[32])) (S:=(do eqGuard .add 9 (.tmp 9) (.const (nT [32])) (nT (wd)) (nT ([32]));binOp .add 9 (nT (wd)) (nT ([32])))) (fun W _=>iG _ _ (wd) ([32]) (by simp only [aA,aB,aD] at hlen ⊢;omega) W) ?_
 refine bZ [13] 60 ?_
 refine qV (nT (wd++[32]++name)) (S:=(do eqGuard .add 9 (.tmp 10) (.tmp 12) (nT (wd++[32])) (nT (name));binOp .add 9 (nT (wd++[32])) (nT (name)))) (fun W _=>iG _ _ (wd++[32]) (name) (by simp only [aA,aB,aD] at hlen ⊢;omega) W) ?_
 refine bZ [14] 60 ?_
 refine qV (nT (wd++[32]++name++[32])) (S:=(do eqGuard .add 9 (.tmp 13) (.const (nT [32])) (nT (wd++[32]++name)) (nT ([32]));binOp .add 9 (nT (wd++[32]++name)) (nT ([32])))) (fun W _=>iG _ _ (wd++[32]++name) ([32]) (by simp only [aA,aB,aD] at hlen ⊢;omega) W) ?_
 refine bZ [19] 60 ?_
 refine qB [n8 ty] (nT (fL ty)) (fun W hk=>by have:=aNm ty W;rw [aTe hv] at this;exact this) ?_
 refine bZ [19] 60 ?_
 refine qV (nT (wd++[32]++name++[32]++fL ty)) (S:=(do eqGuard .add 9 (.tmp 14) (.tmp 18) (nT (wd++[32]++name++[32])) (nT (fL ty));binOp .add 9 (nT (wd++[32]++name++[32])) (nT (fL ty)))) (fun W _=>iG _ _ (wd++[32]++name++[32]) (fL ty) (by simp only [aA,aB,aD] at hlen ⊢;omega) W) ?_
 refine bZ [20] 60 ?_
 refine qV (nT (wd++[32]++name++[32]++fL ty++[32,61,32])) (S:=(do eqGuard .add 9 (.tmp 19) (.const (nT [32,61,32])) (nT (wd++[32]++name++[32]++fL ty)) (nT ([32,61,32]));binOp .add 9 (nT (wd++[32]++name++[32]++fL ty)) (nT ([32,61,32])))) (fun W _=>iG _ _ (wd++[32]++name++[32]++fL ty) ([32,61,32]) (by simp only [aA,aB,aD] at hlen ⊢;omega) W) ?_
 refine bZ [24] 60 ?_
 refine qB [.agg #[n8 ty,n6 (bn:Int)]] (nT t) (fun W hk=>by have:=aBw ty bn hbn W (ht.below (Keep.below hk));rw [(aEh ty bn hbn).2 t hv] at this;exact this) ?_
 refine bZ [24] 60 ?_
 refine qV (nT (wd++[32]++name++[32]++fL ty++[32,61,32]++t)) (S:=(do eqGuard .add 9 (.tmp 20) (.tmp 23) (nT (wd++[32]++name++[32]++fL ty++[32,61,32])) (nT (t));binOp .add 9 (nT (wd++[32]++name++[32]++fL ty++[32,61,32])) (nT (t)))) (fun W _=>iG _ _ (wd++[32]++name++[32]++fL ty++[32,61,32]) (t) (by simp only [aA,aB,aD] at hlen ⊢;omega) W) ?_
 refine bZ [25] 60 ?_
 refine qV (nT (wd++[32]++name++[32]++fL ty++[32,61,32]++t++[59,10])) (S:=(do eqGuard .add 9 (.tmp 24) (.const (nT [59,10])) (nT (wd++[32]++name++[32]++fL ty++[32,61,32]++t)) (nT ([59,10]));binOp .add 9 (nT (wd++[32]++name++[32]++fL ty++[32,61,32]++t)) (nT ([59,10])))) (fun W _=>iG _ _ (wd++[32]++name++[32]++fL ty++[32,61,32]++t) ([59,10]) (by simp only [aA,aB,aD] at hlen ⊢;omega) W) ?_
 refine bZ [] 60 ?_
 refine qE ?_
 refine rk ?_
 refine gw b (wd++[32]++name++[32]++fL ty++[32,61,32]++t++[59,10]) h0 (by first | omega | (simp only [aA,aB,aD] at hlen ⊢;omega)) ?_
 intro w1 B1 hc1 _ _
 refine rk ?_
 refine gR (.tuple #[]) (fun W hk=>⟨rfl,?_⟩)
 have:=hc1.fin hk
 simpa only [aK,bO,bR] using this
theorem rD (x:List UInt8):∀ n,Lib.repeatL x n=(List.replicate n x).flatten
 | 0=>rfl
 | n+1=>by
   show x++Lib.repeatL x n=_
   rw [rD x n,List.replicate_succ,List.flatten_cons]
theorem aOd (deep:Nat):(cW deep).length=2*(deep+1):=by
 unfold cW
 rw [← rD,Lib.repeatL_length]
 simp
 omega
theorem eX (deep:Nat) (l:List UInt8) (b:Nat) (w:World) (hd:deep≤1000000) (hb:Bu b l w) (hlen:l.length+(cW deep).length≤140737488355328):
  Calls Tryz.prog 51 #[nP b,nI (deep:Int)] w fun e w'=>e = .returned (.tuple #[])∧WrR b (l++cW deep) w w':=by
 have h0:=Ch.start hb
 refine eN [nP b,nI (deep:Int)] Tryz.func51 (fun γ0 hγ0=>?_)
 refine rk ?_
 refine gM cP (by kernel_rfl) ?_
 refine bZ [9] 60 ?_
 refine qS 8 (x:=nI (cA .i64 ((deep:Int)+1))) (nI ((deep+1:Nat):Int)) (by rw [cR (by omega) (by omega)];rfl) ?_
 refine bZ [] 60 ?_
 refine qB [nT [32,32],nI ((deep+1:Nat):Int)] (nT (cW deep)) (fun W hk=>by have:=Tryz.strings_Repeat (str [32,32]) (deep+1) W (by omega) (by rw [str_size];simp only [aB,aD];omega);rw [show (⟨(Lib.repeatL (str [32,32]).data.toList (deep+1)).toArray⟩:ByteArray)=str (cW deep) from congrArg str (rD _ _)] at this;exact this) ?_
 refine bZ [] 60 ?_
 refine qE ?_
 refine rk ?_
 refine gw b (cW deep) h0 (by first | omega | (simp only [aA,aB,aD] at hlen ⊢;omega)) ?_
 intro w1 B1 hc1 _ _
 refine rk ?_
 refine gR (.tuple #[]) (fun W hk=>⟨rfl,?_⟩)
 have:=hc1.fin hk
 simpa only [aK] using this
theorem oA (wd en:List UInt8) (e:Ex) (cs:List Value) (t l:List UInt8) (b:Nat) (w:World) (hB:exB e≤1000000000000) (hR:exR e) (ht:Tab w) (hT:exT e=some t) (hb:Bu b l w) (hlen:l.length+(wd++([32]++(t++(en++[10])))).length≤140737488355328) (hat:ExAt (Out b w) w e cs):
  Calls Tryz.prog 52 #[nP b,nT wd,.agg cs.toArray,nT en] w fun e w'=>e = .returned (.tuple #[])∧WrR b (l++(wd++([32]++(t++(en++[10]))))) w w':=by
 obtain ⟨uo,ut,uv,un,uk⟩:=e
 have hat0:=hat
 simp only [ExAt] at hat0
 obtain ⟨uf,ug,uex,rfl,_⟩:=hat0
 have h0:=Ch.start hb
 refine eN [nP b,nT wd,xV uo ut uv un uf uk.length ug,nT en] Tryz.func52 (fun γ0 hγ0=>?_)
 refine rs [12] 60 0 ?_
 refine gC (wd) ([32]) (by simp only [aA,aB,aD] at hlen ⊢;omega) (rk ?_)
 refine gw b (wd++[32]) h0 (by first | omega | (simp only [aA,aB,aD] at hlen ⊢;omega)) ?_
 intro w1 B1 hc1 _ _
 refine rk ?_
 refine gH [nP b,xV uo ut uv un uf uk.length ug] b (t) (.tuple #[]) hc1 (fun W hk hbu hA=>aS3 _ (Ex.mk uo ut uv un uk) (xL uo ut uv un uf uk.length ug) t _ b W (aH _) hB hR (ht.out hb (hc1.keep hk)) hT hbu (by simp only [aA,aB,aD] at hlen ⊢;omega) (hat.keep (hc1.keep hk) hA)) ?_
 intro w2 B2 hc2 _ _
 refine rs [21] 60 0 ?_
 refine gC (en) ([10]) (by simp only [aA,aB,aD] at hlen ⊢;omega) (rk ?_)
 refine gw b (en++[10]) hc2 (by first | omega | (simp only [aA,aB,aD] at hlen ⊢;omega)) ?_
 intro w3 B3 hc3 _ _
 refine rk ?_
 refine gR (.tuple #[]) (fun W hk=>⟨rfl,?_⟩)
 have:=hc3.fin hk
 simpa only [aK] using this
end
section
set_option maxRecDepth 100000
def wdT (kind:Int):List UInt8:=if kind=5 then [105,102] else [119,104,105,108,101]
def nsT (deep:Nat) (kind:Int) (te tb tl:List UInt8) (n:Nat):List UInt8:=
 (wdT kind++([32]++(te++([32,123]++[10]))))++(tb++(cW deep++((if 0<n then [125,32,101,108,115,101,32,123,10]++(tl++cW deep) else [])++[125,10])))
theorem uH {e:Ex} {t:List UInt8} (h:lY e=some t):exT e=some t:=by
 unfold lY at h
 split at h
 · exact h
 · cases h
theorem aJ6 {deep:Nat} {kind:Int} {name t:List UInt8} {e:Ex} {body els:List St} (h:stT deep (.mk kind name e body els)=some t):
  (kind=1∧∃ te,exT e=some te∧t=cW deep++((name++[32,61])++([32]++(te++([59]++[10])))))∨
  (kind=2∧t=cW deep++([108,111,99,107,32]++name++[59,10]))∨
  (kind=3∧t=cW deep++([117,110,108,111,99,107,32]++name++[59,10]))∨
  (kind=4∧∃ te,exT e=some te∧t=cW deep++([97,115,115,101,114,116]++([32]++(te++([59]++[10])))))∨
  (kind=7∧t=cW deep++[115,107,105,112,59,10])∨
  (kind=5∧∃ te tb tl,exT e=some te∧dQ (deep+1) body=some tb∧dQ (deep+1) els=some tl∧t=cW deep++nsT deep kind te tb tl els.length)∨
  (kind=6∧∃ te tb tl,exT e=some te∧dQ (deep+1) body=some tb∧dQ (deep+1) els=some tl∧t=cW deep++nsT deep kind te tb tl els.length):=by
 simp only [stT] at h
 by_cases c1:kind=1
 · rw [if_pos c1] at h
   split at h
   · rw [Option.map_eq_some_iff] at h
     obtain ⟨te,he,rfl⟩:=h
     exact .inl ⟨c1,te,uH he,by simp⟩
   · cases h
 rw [if_neg c1] at h
 by_cases c2:kind=2
 · rw [if_pos c2] at h
   split at h
   · injection h with h
     exact .inr (.inl ⟨c2,by rw [← h];simp⟩)
   · cases h
 rw [if_neg c2] at h
 by_cases c3:kind=3
 · rw [if_pos c3] at h
   split at h
   · injection h with h
     exact .inr (.inr (.inl ⟨c3,by rw [← h];simp⟩))
   · cases h
 rw [if_neg c3] at h
 by_cases c4:kind=4
 · rw [if_pos c4] at h
   split at h
   · rw [Option.map_eq_some_iff] at h
     obtain ⟨te,he,rfl⟩:=h
     exact .inr (.inr (.inr (.inl ⟨c4,te,uH he,by simp⟩)))
   · cases h
 rw [if_neg c4] at h
 by_cases c7:kind=7
 · rw [if_pos c7] at h
   split at h
   · injection h with h
     exact .inr (.inr (.inr (.inr (.inl ⟨c7,by rw [← h]⟩))))
   · cases h
 rw [if_neg c7] at h
 by_cases c5:kind=5∨kind=6
 · rw [if_pos c5] at h
   cases hb:dQ (deep+1) body with
   | none=>rw [hb] at h;cases h
   | some tb=>
     cases hl:dQ (deep+1) els with
     | none=>rw [hb,hl] at h;cases h
     | some tl=>
       cases he:lY e with
       | none=>rw [hb,hl,he] at h;cases h
       | some te=>
         rw [hb,hl,he] at h
         simp only at h
         split at h
         · cases h
         rename_i hz
         have key:t=cW deep++nsT deep kind te tb tl els.length:=by
          unfold nsT wdT
          by_cases c6:kind=6
          · rw [if_pos c6] at h
            injection h with h
            rw [← h,if_neg (show ¬ kind=5 by omega),if_neg (fun hp=>hz (.inr ⟨c6,hp⟩))]
            simp
          · rw [if_neg c6] at h
            rw [if_pos (show kind=5 by omega)]
            split at h
            · rename_i hp
              injection h with h
              rw [← h,if_pos hp]
              simp
            · rename_i hp
              injection h with h
              rw [← h,if_neg hp]
              simp
         rcases c5 with c5 | c5
         · exact .inr (.inr (.inr (.inr (.inr (.inl ⟨c5,te,tb,tl,uH he,rfl,rfl,key⟩)))))
         · exact .inr (.inr (.inr (.inr (.inr (.inr ⟨c5,te,tb,tl,uH he,rfl,rfl,key⟩)))))
 · rw [if_neg c5] at h
   cases h
theorem aOs {deep:Nat} {L:List St} {t:List UInt8} (h:dQ deep L=some t):cE (stT deep) L=some t∧(L=[]∨deep≤32):=by
 rw [aGa] at h
 split at h
 · cases h
 rename_i hn
 refine ⟨h,?_⟩
 cases L with
 | nil=>exact .inl rfl
 | cons x l=>right;simp at hn;exact hn
theorem qP {α:Type} {f:α→Option (List UInt8)} {l1 l3:List α} {x:α} {t t1:List UInt8} (h:cE f (l1++x::l3)=some t) (h1:cE f l1=some t1):∃ tx t3,f x=some tx∧t=t1++(tx++t3)∧cE f (l1++[x])=some (t1++tx):=by
 rw [aAl,h1] at h
 simp only [cE] at h
 cases hx:f x with
 | none=>rw [hx] at h;cases h
 | some tx=>
   rw [hx] at h
   cases h3:cE f l3 with
   | none=>rw [h3] at h;cases h
   | some t3=>
     rw [h3] at h
     injection h with h
     refine ⟨tx,t3,rfl,h.symm,?_⟩
     rw [aAl,h1]
     simp only [cE,hx,bF]
def aP6 (N:Nat):Prop:=∀ (L:List St) (a:Option Addr) (n cap:Nat) (xs:List Value) (deep:Nat) (t l:List UInt8) (b:Nat) (w:World),n=L.length→cS L<N→cS L≤1000000000000→deep≤1000→j4 L≤1000000000000→j5 L→Tab w→dQ deep L=some t→Bu b l w→l.length+t.length≤140737488355328→Sy.SlAt (Out b w) w a n 9 xs→LsAt (StAt (Out b w) w) L xs→
    Calls Tryz.prog 19 #[.pointer (some ⟨b,0,none⟩),.slice a n cap,.int .i64 (deep:Int)] w fun e w'=>e = .returned (.tuple #[])∧WrR b (l++t) w w'
open Go.Sy
theorem aI0 (N:Nat) (ih:aP6 N) (us:List UInt8) (uo ut uv:Int) (un:List UInt8) (uk:List Ex) (uB uL:List St) (uj ui uf:Option Addr) (uh uw ug:Nat) (deep:Nat) (ubx ulx:List Value) (te tb tl l:List UInt8) (b:Nat) (w:World) (hN:swt (St.mk 5 us (Ex.mk uo ut uv un uk) uB uL)≤N) (hbd:swt (St.mk 5 us (Ex.mk uo ut uv un uk) uB uL)≤1000000000000) (hdeep:deep≤999) (hB:stB (St.mk 5 us (Ex.mk uo ut uv un uk) uB uL)≤1000000000000) (hR:stR (St.mk 5 us (Ex.mk uo ut uv un uk) uB uL)) (ht:Tab w)
  (hte:exT (Ex.mk uo ut uv un uk)=some te) (htb:dQ (deep+1) uB=some tb) (htl:dQ (deep+1) uL=some tl) (hb:Bu b l w) (hlen:l.length+(nsT deep 5 te tb tl uL.length).length≤140737488355328)
  (uhe:ExAt (Out b w) w (Ex.mk uo ut uv un uk) (xL uo ut uv un uf uk.length ug)) (uhbs:SlAt (Out b w) w uj uB.length 9 ubx) (uhbt:StsAt (Out b w) w uB ubx) (uhls:SlAt (Out b w) w ui uL.length 9 ulx) (uhlt:StsAt (Out b w) w uL ulx):
  Calls Tryz.prog 53 #[nP b,yV 5 us uo ut uv un uf uk.length ug uj uB.length uh ui uL.length uw,nI (deep:Int)] w fun e w'=>e = .returned (.tuple #[])∧WrR b (l++nsT deep 5 te tb tl uL.length) w w':=by
 simp only [swt] at hN hbd
 simp only [stB] at hB
 obtain ⟨_,hRe,hRb,hRl⟩:=hR
 have hnb:=jQ uB
 have hnl:=jQ uL
 have hwe:=fS (Ex.mk uo ut uv un uk)
 unfold nsT at hlen ⊢
 rw [show wdT 5=[105,102] from rfl] at hlen ⊢
 have h0:=Ch.start hb
 refine eN [nP b,yV 5 us uo ut uv un uf uk.length ug uj uB.length uh ui uL.length uw,nI (deep:Int)] Tryz.func53 (fun γ0 hγ0=>?_)
 refine rs [] 60 2 ?_
 refine gH [nP b,nT [105,102],xV uo ut uv un uf uk.length ug,nT [32,123]] b ([105,102]++([32]++(te++([32,123]++[10])))) (.tuple #[]) h0 (fun W hk hbu hA=>oA [105,102] [32,123] (Ex.mk uo ut uv un uk) (xL uo ut uv un uf uk.length ug) te _ b W (by omega) hRe (ht.out hb (h0.keep hk)) hte hbu (by simp only [aA,aB,aD] at hlen ⊢;omega) (uhe.keep (h0.keep hk) hA)) ?_
 intro w1 B1 hc1 _ _
 refine rk ?_
 refine gS 19 (x:=nI (cA .i64 ((deep:Int)+1))) (nI ((deep+1:Nat):Int)) (by rw [cR (by omega) (by omega)];rfl) ?_
 refine gH [nP b,.slice uj uB.length uh,nI ((deep+1:Nat):Int)] b (tb) (.tuple #[]) hc1 (fun W hk hbu hA=>ih uB uj uB.length uh ubx (deep+1) tb _ b W rfl (by omega) (by omega) (by omega) (by omega) hRb (ht.out hb (hc1.keep hk)) htb hbu (by simp only [aA,aB,aD] at hlen ⊢;omega) ((uhbs.keep (hc1.keep hk)).mono hA) (StsAt_ls.1 (uhbt.keep (hc1.keep hk) hA))) ?_
 intro w2 B2 hc2 _ _
 refine rk ?_
 refine gH [nP b,nI (deep:Int)] b (cW deep) (.tuple #[]) hc2 (fun W hk hbu hA=>eX deep _ b W (by omega) hbu (by simp only [aA,aB,aD] at hlen ⊢;omega)) ?_
 intro w3 B3 hc3 _ _
 refine rk ?_
 rcases bM uL.length with hz | hz
 ·
  rw [if_neg (show ¬ 0<uL.length by omega)] at hlen ⊢
  refine ky 0 (uL.length:Int) (by omega) (rk ?_)
  refine gw b ([125,10]) hc3 (by simp only [aA,aB,aD] at hlen ⊢;omega) ?_
  intro w4 B4 hc4 _ _
  refine rk ?_
  refine gR (.tuple #[]) (fun W hk=>⟨rfl,?_⟩)
  have:=hc4.fin hk
  simpa only [aK,bR] using this
 ·
  rw [if_pos hz] at hlen ⊢
  refine kx 0 (uL.length:Int) (by omega) (rk ?_)
  refine gw b ([125,32,101,108,115,101,32,123,10]) hc3 (by simp only [aA,aB,aD] at hlen ⊢;omega) ?_
  intro w4 B4 hc4 _ _
  refine rk ?_
  refine gS 36 (x:=nI (cA .i64 ((deep:Int)+1))) (nI ((deep+1:Nat):Int)) (by rw [cR (by omega) (by omega)];rfl) ?_
  refine gH [nP b,.slice ui uL.length uw,nI ((deep+1:Nat):Int)] b (tl) (.tuple #[]) hc4 (fun W hk hbu hA=>ih uL ui uL.length uw ulx (deep+1) tl _ b W rfl (by omega) (by omega) (by omega) (by omega) hRl (ht.out hb (hc4.keep hk)) htl hbu (by simp only [aA,aB,aD] at hlen ⊢;omega) ((uhls.keep (hc4.keep hk)).mono hA) (StsAt_ls.1 (uhlt.keep (hc4.keep hk) hA))) ?_
  intro w5 B5 hc5 _ _
  refine rk ?_
  refine gH [nP b,nI (deep:Int)] b (cW deep) (.tuple #[]) hc5 (fun W hk hbu hA=>eX deep _ b W (by omega) hbu (by simp only [aA,aB,aD] at hlen ⊢;omega)) ?_
  intro w6 B6 hc6 _ _
  refine rk ?_
  refine gw b ([125,10]) hc6 (by simp only [aA,aB,aD] at hlen ⊢;omega) ?_
  intro w7 B7 hc7 _ _
  refine rk ?_
  refine gR (.tuple #[]) (fun W hk=>⟨rfl,?_⟩)
  have:=hc7.fin hk
  simpa only [aK,bR] using this
theorem aIl (N:Nat) (ih:aP6 N) (us:List UInt8) (uo ut uv:Int) (un:List UInt8) (uk:List Ex) (uB uL:List St) (uj ui uf:Option Addr) (uh uw ug:Nat) (deep:Nat) (ubx ulx:List Value) (te tb tl l:List UInt8) (b:Nat) (w:World) (hN:swt (St.mk 6 us (Ex.mk uo ut uv un uk) uB uL)≤N) (hbd:swt (St.mk 6 us (Ex.mk uo ut uv un uk) uB uL)≤1000000000000) (hdeep:deep≤999) (hB:stB (St.mk 6 us (Ex.mk uo ut uv un uk) uB uL)≤1000000000000) (hR:stR (St.mk 6 us (Ex.mk uo ut uv un uk) uB uL)) (ht:Tab w)
  (hte:exT (Ex.mk uo ut uv un uk)=some te) (htb:dQ (deep+1) uB=some tb) (htl:dQ (deep+1) uL=some tl) (hb:Bu b l w) (hlen:l.length+(nsT deep 6 te tb tl uL.length).length≤140737488355328)
  (uhe:ExAt (Out b w) w (Ex.mk uo ut uv un uk) (xL uo ut uv un uf uk.length ug)) (uhbs:SlAt (Out b w) w uj uB.length 9 ubx) (uhbt:StsAt (Out b w) w uB ubx) (uhls:SlAt (Out b w) w ui uL.length 9 ulx) (uhlt:StsAt (Out b w) w uL ulx):
  Calls Tryz.prog 53 #[nP b,yV 6 us uo ut uv un uf uk.length ug uj uB.length uh ui uL.length uw,nI (deep:Int)] w fun e w'=>e = .returned (.tuple #[])∧WrR b (l++nsT deep 6 te tb tl uL.length) w w':=by
 simp only [swt] at hN hbd
 simp only [stB] at hB
 obtain ⟨_,hRe,hRb,hRl⟩:=hR
 have hnb:=jQ uB
 have hnl:=jQ uL
 have hwe:=fS (Ex.mk uo ut uv un uk)
 unfold nsT at hlen ⊢
 rw [show wdT 6=[119,104,105,108,101] from rfl] at hlen ⊢
 have h0:=Ch.start hb
 refine eN [nP b,yV 6 us uo ut uv un uf uk.length ug uj uB.length uh ui uL.length uw,nI (deep:Int)] Tryz.func53 (fun γ0 hγ0=>?_)
 refine rs [] 60 2 ?_
 refine gH [nP b,nT [119,104,105,108,101],xV uo ut uv un uf uk.length ug,nT [32,123]] b ([119,104,105,108,101]++([32]++(te++([32,123]++[10])))) (.tuple #[]) h0 (fun W hk hbu hA=>oA [119,104,105,108,101] [32,123] (Ex.mk uo ut uv un uk) (xL uo ut uv un uf uk.length ug) te _ b W (by omega) hRe (ht.out hb (h0.keep hk)) hte hbu (by simp only [aA,aB,aD] at hlen ⊢;omega) (uhe.keep (h0.keep hk) hA)) ?_
 intro w1 B1 hc1 _ _
 refine rk ?_
 refine gS 19 (x:=nI (cA .i64 ((deep:Int)+1))) (nI ((deep+1:Nat):Int)) (by rw [cR (by omega) (by omega)];rfl) ?_
 refine gH [nP b,.slice uj uB.length uh,nI ((deep+1:Nat):Int)] b (tb) (.tuple #[]) hc1 (fun W hk hbu hA=>ih uB uj uB.length uh ubx (deep+1) tb _ b W rfl (by omega) (by omega) (by omega) (by omega) hRb (ht.out hb (hc1.keep hk)) htb hbu (by simp only [aA,aB,aD] at hlen ⊢;omega) ((uhbs.keep (hc1.keep hk)).mono hA) (StsAt_ls.1 (uhbt.keep (hc1.keep hk) hA))) ?_
 intro w2 B2 hc2 _ _
 refine rk ?_
 refine gH [nP b,nI (deep:Int)] b (cW deep) (.tuple #[]) hc2 (fun W hk hbu hA=>eX deep _ b W (by omega) hbu (by simp only [aA,aB,aD] at hlen ⊢;omega)) ?_
 intro w3 B3 hc3 _ _
 refine rk ?_
 rcases bM uL.length with hz | hz
 ·
  rw [if_neg (show ¬ 0<uL.length by omega)] at hlen ⊢
  refine ky 0 (uL.length:Int) (by omega) (rk ?_)
  refine gw b ([125,10]) hc3 (by simp only [aA,aB,aD] at hlen ⊢;omega) ?_
  intro w4 B4 hc4 _ _
  refine rk ?_
  refine gR (.tuple #[]) (fun W hk=>⟨rfl,?_⟩)
  have:=hc4.fin hk
  simpa only [aK,bR] using this
 ·
  rw [if_pos hz] at hlen ⊢
  refine kx 0 (uL.length:Int) (by omega) (rk ?_)
  refine gw b ([125,32,101,108,115,101,32,123,10]) hc3 (by simp only [aA,aB,aD] at hlen ⊢;omega) ?_
  intro w4 B4 hc4 _ _
  refine rk ?_
  refine gS 36 (x:=nI (cA .i64 ((deep:Int)+1))) (nI ((deep+1:Nat):Int)) (by rw [cR (by omega) (by omega)];rfl) ?_
  refine gH [nP b,.slice ui uL.length uw,nI ((deep+1:Nat):Int)] b (tl) (.tuple #[]) hc4 (fun W hk hbu hA=>ih uL ui uL.length uw ulx (deep+1) tl _ b W rfl (by omega) (by omega) (by omega) (by omega) hRl (ht.out hb (hc4.keep hk)) htl hbu (by simp only [aA,aB,aD] at hlen ⊢;omega) ((uhls.keep (hc4.keep hk)).mono hA) (StsAt_ls.1 (uhlt.keep (hc4.keep hk) hA))) ?_
  intro w5 B5 hc5 _ _
  refine rk ?_
  refine gH [nP b,nI (deep:Int)] b (cW deep) (.tuple #[]) hc5 (fun W hk hbu hA=>eX deep _ b W (by omega) hbu (by simp only [aA,aB,aD] at hlen ⊢;omega)) ?_
  intro w6 B6 hc6 _ _
  refine rk ?_
  refine gw b ([125,10]) hc6 (by simp only [aA,aB,aD] at hlen ⊢;omega) ?_
  intro w7 B7 hc7 _ _
  refine rk ?_
  refine gR (.tuple #[]) (fun W hk=>⟨rfl,?_⟩)
  have:=hc7.fin hk
  simpa only [aK,bR] using this
end
section
open Go.Sy in
set_option maxRecDepth 100000 in
theorem aVx:∀ N,aP6 N:=by
 intro N
 induction N with
 | zero=>intro L a n cap xs deep t l b w _ h;omega
 | succ N ih=>
   intro L a n cap xs deep t l b w hn hN hbd hdeep hB hR ht hT0 hb hlen hsl hks
   obtain ⟨hT,hd⟩:=aOs hT0
   have hnl:=jQ L
   have h0:=Ch.start hb
   refine eN [nP b,.slice a n cap,nI (deep:Int)] Tryz.func19 (fun γ0 hγ0=>?_)
   refine rk ?_
   refine cF ?_
   refine fO (fun i:List St×List St=>i.2.length) (fun i B1 w1=>L=i.1++i.2∧∃ t1,cE (stT deep) i.1=some t1∧Ch b (l++t1) (Out b w) w w1 B1) (fun i=>⟨mkT [(0,vP b),(2,vI (deep:Int)),(8,vL a n cap),(9,vI (n:Int)),(10,vI (i.1.length:Int))],mkH [],gz,[]⟩)
    ([],L) ⟨rfl,[],rfl,by rw [bF];exact h0⟩ (by kernel_rfl)
    (fun h=>gU _ [(0,vP b),(2,vI (deep:Int)),(8,vL a n cap),(9,vI (n:Int)),(10,vI (([]:List St).length:Int))] [] gz hγ0 h) ?_
   rintro ⟨l1,l2⟩ B1 w1 ⟨hI,t1,ht1,hch⟩ ih2
   have hI:L=l1++l2:=hI
   have ht1:cE (stT deep) l1=some t1:=ht1
   have hn2:n=l1.length+l2.length:=by rw [hn,hI,aA]
   have hw1:cS L=cS l1+cS l2:=by rw [hI,vR]
   refine rk ?_
   cases l2 with
   | nil=>
     refine ky (l1.length:Int) (n:Int) (by simp at hn2;omega) (rs [] 60 1 ?_)
     refine gR (.tuple #[]) (fun W hk=>⟨rfl,?_⟩)
     have:=hch.fin hk
     rw [hI,bF,ht1] at hT
     injection hT with hT
     rwa [hT] at this
   | cons x l3=>
     have hin:l1.length<n:=by rw [hn2,aB];omega
     have hks2:=StsAt_ls.2 hks
     have hT2:=hT
     rw [hI] at hks2 hT2
     obtain ⟨tx,t3,htx,rfl,htn⟩:=qP hT2 ht1
     obtain ⟨c,hc,hcell⟩:=hks2.at_
     simp only [cS] at hw1
     have hdp:deep≤32:=hd.elim (fun e=>by rw [hI] at e;simp at e) id
     have hxR:stR x:=stRs_mem.1 hR x (by rw [hI];simp)
     have hxB:=u6 (x:=x) (l:=L) (by rw [hI];simp)
     refine kx (l1.length:Int) (n:Int) (by omega) (rk ?_)
     refine gI 52 54 cap l1.length hsl hin (rk ?_)
     have hcl:=hc.len
     have hld:=fun W (hk:Keep _ _ W)=>d9 (P:=Tryz.prog) (ty:=54) (m:=9) (cs:=c) hsl (by kernel_rfl) (by kernel_rfl) l1.length 0 hcl (fun j v hv=>by rw [Nat.add_zero];exact hcell j v hv) (W:=W) (hch.keep hk)
     obtain ⟨uK,us,⟨uo,ut,uv,un,uk⟩,uB,uL⟩:=x
     simp only [StAt] at hc
     obtain ⟨ucs,uj,uh,ubx,ui,uw,ulx,rfl,uhe,uhbs,uhbt,uhls,uhlt⟩:=hc
     have uhe0:=uhe
     simp only [ExAt] at uhe0
     obtain ⟨uf,ug,uex,rfl,_⟩:=uhe0
     have hxB2:=hxB
     simp only [stB] at hxB2
     obtain ⟨_,hRe,_,_⟩:=id hxR
     rcases aJ6 htx with ⟨rfl,te,hte,rfl⟩ | ⟨rfl,rfl⟩ | ⟨rfl,rfl⟩ | ⟨rfl,te,hte,rfl⟩ | ⟨rfl,rfl⟩ | ⟨rfl,te,tb,tl,hte,htb,htl,rfl⟩ | ⟨rfl,te,tb,tl,hte,htb,htl,rfl⟩
     ·
      refine gV (yV 1 us uo ut uv un uf uk.length ug uj uB.length uh ui uL.length uw) (S:=Instr.loadAt 54 (.pointer (some ⟨gB a,oB a+l1.length*9+0,none⟩))) (fun W hk=>hld W hk) (rk ?_)
      refine gH [nP b,nI (deep:Int)] b (cW deep) (.tuple #[]) hch (fun W hk hbu hA=>eX deep _ b W (by omega) hbu (by simp only [aA,aB,aD] at hlen ⊢;omega)) ?_
      intro w1 B1 hc1 _ _
      refine rs [24] 60 9 ?_
      refine gC (us) ([32,61]) (by simp only [aA,aB,aD] at hlen ⊢;omega) (rk ?_)
      refine gH [nP b,nT (us++[32,61]),xV uo ut uv un uf uk.length ug,nT [59]] b ((us++[32,61])++([32]++(te++([59]++[10])))) (.tuple #[]) hc1 (fun W hk hbu hA=>oA (us++[32,61]) [59] (Ex.mk uo ut uv un uk) (xL uo ut uv un uf uk.length ug) te _ b W (by omega) hRe (ht.out hb (hc1.keep hk)) hte hbu (by simp only [aA,aB,aD] at hlen ⊢;omega) (uhe.keep (hc1.keep hk) hA)) ?_
      intro w2 B2 hc2 _ _
      refine rk ?_
      refine gS 10 (x:=nI (cA .i64 ((l1.length:Int)+1))) (nI ((l1++[(St.mk 1 us (Ex.mk uo ut uv un uk) uB uL)]).length:Nat)) (by rw [cR (by omega) (by omega)];congr 1;simp) ?_
      exact gU _ [(0,vP b),(2,vI (deep:Int)),(8,vL a n cap),(9,vI (n:Int)),(10,vI ((l1++[(St.mk 1 us (Ex.mk uo ut uv un uk) uB uL)]).length:Int))] [] gz hγ0 (ih2 (l1++[(St.mk 1 us (Ex.mk uo ut uv un uk) uB uL)],l3) _ _ ⟨by show L=(l1++[_])++l3;rw [hI];simp,_,htn,by simpa only [aK] using hc2⟩ lS1)
     ·
      refine gV (yV 2 us uo ut uv un uf uk.length ug uj uB.length uh ui uL.length uw) (S:=Instr.loadAt 54 (.pointer (some ⟨gB a,oB a+l1.length*9+0,none⟩))) (fun W hk=>hld W hk) (rk ?_)
      refine gH [nP b,nI (deep:Int)] b (cW deep) (.tuple #[]) hch (fun W hk hbu hA=>eX deep _ b W (by omega) hbu (by simp only [aA,aB,aD] at hlen ⊢;omega)) ?_
      intro w1 B1 hc1 _ _
      refine rs [35] 19 9 ?_
      refine gM cP (by kernel_rfl) ?_
      refine bZ [35] 60 ?_
      refine qV (nT ([108,111,99,107,32]++us)) (S:=(do eqGuard .add 9 (.const (nT [108,111,99,107,32])) (.tmp 34) (nT ([108,111,99,107,32])) (nT (us));binOp .add 9 (nT ([108,111,99,107,32])) (nT (us)))) (fun W _=>iG _ _ ([108,111,99,107,32]) (us) (by simp only [aA,aB,aD] at hlen ⊢;omega) W) ?_
      refine bZ [36] 60 ?_
      refine qV (nT ([108,111,99,107,32]++us++[59,10])) (S:=(do eqGuard .add 9 (.tmp 35) (.const (nT [59,10])) (nT ([108,111,99,107,32]++us)) (nT ([59,10]));binOp .add 9 (nT ([108,111,99,107,32]++us)) (nT ([59,10])))) (fun W _=>iG _ _ ([108,111,99,107,32]++us) ([59,10]) (by simp only [aA,aB,aD] at hlen ⊢;omega) W) ?_
      refine bZ [] 60 ?_
      refine qE ?_
      refine rk ?_
      refine gw b ([108,111,99,107,32]++us++[59,10]) hc1 (by simp only [aA,aB,aD] at hlen ⊢;omega) ?_
      intro w2 B2 hc2 _ _
      refine rk ?_
      refine gS 10 (x:=nI (cA .i64 ((l1.length:Int)+1))) (nI ((l1++[(St.mk 2 us (Ex.mk uo ut uv un uk) uB uL)]).length:Nat)) (by rw [cR (by omega) (by omega)];congr 1;simp) ?_
      exact gU _ [(0,vP b),(2,vI (deep:Int)),(8,vL a n cap),(9,vI (n:Int)),(10,vI ((l1++[(St.mk 2 us (Ex.mk uo ut uv un uk) uB uL)]).length:Int))] [] gz hγ0 (ih2 (l1++[(St.mk 2 us (Ex.mk uo ut uv un uk) uB uL)],l3) _ _ ⟨by show L=(l1++[_])++l3;rw [hI];simp,_,htn,by simpa only [aK] using hc2⟩ lS1)
     ·
      refine gV (yV 3 us uo ut uv un uf uk.length ug uj uB.length uh ui uL.length uw) (S:=Instr.loadAt 54 (.pointer (some ⟨gB a,oB a+l1.length*9+0,none⟩))) (fun W hk=>hld W hk) (rk ?_)
      refine gH [nP b,nI (deep:Int)] b (cW deep) (.tuple #[]) hch (fun W hk hbu hA=>eX deep _ b W (by omega) hbu (by simp only [aA,aB,aD] at hlen ⊢;omega)) ?_
      intro w1 B1 hc1 _ _
      refine rs [45] 25 9 ?_
      refine gM cP (by kernel_rfl) ?_
      refine bZ [45] 60 ?_
      refine qV (nT ([117,110,108,111,99,107,32]++us)) (S:=(do eqGuard .add 9 (.const (nT [117,110,108,111,99,107,32])) (.tmp 44) (nT ([117,110,108,111,99,107,32])) (nT (us));binOp .add 9 (nT ([117,110,108,111,99,107,32])) (nT (us)))) (fun W _=>iG _ _ ([117,110,108,111,99,107,32]) (us) (by simp only [aA,aB,aD] at hlen ⊢;omega) W) ?_
      refine bZ [46] 60 ?_
      refine qV (nT ([117,110,108,111,99,107,32]++us++[59,10])) (S:=(do eqGuard .add 9 (.tmp 45) (.const (nT [59,10])) (nT ([117,110,108,111,99,107,32]++us)) (nT ([59,10]));binOp .add 9 (nT ([117,110,108,111,99,107,32]++us)) (nT ([59,10])))) (fun W _=>iG _ _ ([117,110,108,111,99,107,32]++us) ([59,10]) (by simp only [aA,aB,aD] at hlen ⊢;omega) W) ?_
      refine bZ [] 60 ?_
      refine qE ?_
      refine rk ?_
      refine gw b ([117,110,108,111,99,107,32]++us++[59,10]) hc1 (by simp only [aA,aB,aD] at hlen ⊢;omega) ?_
      intro w2 B2 hc2 _ _
      refine rk ?_
      refine gS 10 (x:=nI (cA .i64 ((l1.length:Int)+1))) (nI ((l1++[(St.mk 3 us (Ex.mk uo ut uv un uk) uB uL)]).length:Nat)) (by rw [cR (by omega) (by omega)];congr 1;simp) ?_
      exact gU _ [(0,vP b),(2,vI (deep:Int)),(8,vL a n cap),(9,vI (n:Int)),(10,vI ((l1++[(St.mk 3 us (Ex.mk uo ut uv un uk) uB uL)]).length:Int))] [] gz hγ0 (ih2 (l1++[(St.mk 3 us (Ex.mk uo ut uv un uk) uB uL)],l3) _ _ ⟨by show L=(l1++[_])++l3;rw [hI];simp,_,htn,by simpa only [aK] using hc2⟩ lS1)
     ·
      refine gV (yV 4 us uo ut uv un uf uk.length ug uj uB.length uh ui uL.length uw) (S:=Instr.loadAt 54 (.pointer (some ⟨gB a,oB a+l1.length*9+0,none⟩))) (fun W hk=>hld W hk) (rk ?_)
      refine gH [nP b,nI (deep:Int)] b (cW deep) (.tuple #[]) hch (fun W hk hbu hA=>eX deep _ b W (by omega) hbu (by simp only [aA,aB,aD] at hlen ⊢;omega)) ?_
      intro w1 B1 hc1 _ _
      refine rs [] 60 9 ?_
      refine gH [nP b,nT [97,115,115,101,114,116],xV uo ut uv un uf uk.length ug,nT [59]] b ([97,115,115,101,114,116]++([32]++(te++([59]++[10])))) (.tuple #[]) hc1 (fun W hk hbu hA=>oA [97,115,115,101,114,116] [59] (Ex.mk uo ut uv un uk) (xL uo ut uv un uf uk.length ug) te _ b W (by omega) hRe (ht.out hb (hc1.keep hk)) hte hbu (by simp only [aA,aB,aD] at hlen ⊢;omega) (uhe.keep (hc1.keep hk) hA)) ?_
      intro w2 B2 hc2 _ _
      refine rk ?_
      refine gS 10 (x:=nI (cA .i64 ((l1.length:Int)+1))) (nI ((l1++[(St.mk 4 us (Ex.mk uo ut uv un uk) uB uL)]).length:Nat)) (by rw [cR (by omega) (by omega)];congr 1;simp) ?_
      exact gU _ [(0,vP b),(2,vI (deep:Int)),(8,vL a n cap),(9,vI (n:Int)),(10,vI ((l1++[(St.mk 4 us (Ex.mk uo ut uv un uk) uB uL)]).length:Int))] [] gz hγ0 (ih2 (l1++[(St.mk 4 us (Ex.mk uo ut uv un uk) uB uL)],l3) _ _ ⟨by show L=(l1++[_])++l3;rw [hI];simp,_,htn,by simpa only [aK] using hc2⟩ lS1)
     ·
      refine gV (yV 7 us uo ut uv un uf uk.length ug uj uB.length uh ui uL.length uw) (S:=Instr.loadAt 54 (.pointer (some ⟨gB a,oB a+l1.length*9+0,none⟩))) (fun W hk=>hld W hk) (rk ?_)
      refine gH [nP b,nI (deep:Int)] b (cW deep) (.tuple #[]) hch (fun W hk hbu hA=>eX deep _ b W (by omega) hbu (by simp only [aA,aB,aD] at hlen ⊢;omega)) ?_
      intro w1 B1 hc1 _ _
      refine rs [] 60 9 ?_
      refine gw b ([115,107,105,112,59,10]) hc1 (by simp only [aA,aB,aD] at hlen ⊢;omega) ?_
      intro w2 B2 hc2 _ _
      refine rk ?_
      refine gS 10 (x:=nI (cA .i64 ((l1.length:Int)+1))) (nI ((l1++[(St.mk 7 us (Ex.mk uo ut uv un uk) uB uL)]).length:Nat)) (by rw [cR (by omega) (by omega)];congr 1;simp) ?_
      exact gU _ [(0,vP b),(2,vI (deep:Int)),(8,vL a n cap),(9,vI (n:Int)),(10,vI ((l1++[(St.mk 7 us (Ex.mk uo ut uv un uk) uB uL)]).length:Int))] [] gz hγ0 (ih2 (l1++[(St.mk 7 us (Ex.mk uo ut uv un uk) uB uL)],l3) _ _ ⟨by show L=(l1++[_])++l3;rw [hI];simp,_,htn,by simpa only [aK] using hc2⟩ lS1)
     ·
      refine gV (yV 5 us uo ut uv un uf uk.length ug uj uB.length uh ui uL.length uw) (S:=Instr.loadAt 54 (.pointer (some ⟨gB a,oB a+l1.length*9+0,none⟩))) (fun W hk=>hld W hk) (rk ?_)
      refine gH [nP b,nI (deep:Int)] b (cW deep) (.tuple #[]) hch (fun W hk hbu hA=>eX deep _ b W (by omega) hbu (by simp only [aA,aB,aD] at hlen ⊢;omega)) ?_
      intro w1 B1 hc1 _ _
      refine rs [] 60 9 ?_
      refine gH [nP b,yV 5 us uo ut uv un uf uk.length ug uj uB.length uh ui uL.length uw,nI (deep:Int)] b (nsT deep 5 te tb tl uL.length) (.tuple #[]) hc1 (fun W hk hbu hA=>aI0 N ih us uo ut uv un uk uB uL uj ui uf uh uw ug deep ubx ulx te tb tl _ b W (by omega) (by omega) (by omega) (by omega) hxR (ht.out hb (hc1.keep hk)) hte htb htl hbu (by simp only [aA,aB,aD] at hlen ⊢;omega) (uhe.keep (hc1.keep hk) hA) ((uhbs.keep (hc1.keep hk)).mono hA) (uhbt.keep (hc1.keep hk) hA) ((uhls.keep (hc1.keep hk)).mono hA) (uhlt.keep (hc1.keep hk) hA)) ?_
      intro w2 B2 hc2 _ _
      refine rk ?_
      refine gS 10 (x:=nI (cA .i64 ((l1.length:Int)+1))) (nI ((l1++[(St.mk 5 us (Ex.mk uo ut uv un uk) uB uL)]).length:Nat)) (by rw [cR (by omega) (by omega)];congr 1;simp) ?_
      exact gU _ [(0,vP b),(2,vI (deep:Int)),(8,vL a n cap),(9,vI (n:Int)),(10,vI ((l1++[(St.mk 5 us (Ex.mk uo ut uv un uk) uB uL)]).length:Int))] [] gz hγ0 (ih2 (l1++[(St.mk 5 us (Ex.mk uo ut uv un uk) uB uL)],l3) _ _ ⟨by show L=(l1++[_])++l3;rw [hI];simp,_,htn,by simpa only [aK] using hc2⟩ lS1)
     ·
      refine gV (yV 6 us uo ut uv un uf uk.length ug uj uB.length uh ui uL.length uw) (S:=Instr.loadAt 54 (.pointer (some ⟨gB a,oB a+l1.length*9+0,none⟩))) (fun W hk=>hld W hk) (rk ?_)
      refine gH [nP b,nI (deep:Int)] b (cW deep) (.tuple #[]) hch (fun W hk hbu hA=>eX deep _ b W (by omega) hbu (by simp only [aA,aB,aD] at hlen ⊢;omega)) ?_
      intro w1 B1 hc1 _ _
      refine rs [] 60 9 ?_
      refine gH [nP b,yV 6 us uo ut uv un uf uk.length ug uj uB.length uh ui uL.length uw,nI (deep:Int)] b (nsT deep 6 te tb tl uL.length) (.tuple #[]) hc1 (fun W hk hbu hA=>aIl N ih us uo ut uv un uk uB uL uj ui uf uh uw ug deep ubx ulx te tb tl _ b W (by omega) (by omega) (by omega) (by omega) hxR (ht.out hb (hc1.keep hk)) hte htb htl hbu (by simp only [aA,aB,aD] at hlen ⊢;omega) (uhe.keep (hc1.keep hk) hA) ((uhbs.keep (hc1.keep hk)).mono hA) (uhbt.keep (hc1.keep hk) hA) ((uhls.keep (hc1.keep hk)).mono hA) (uhlt.keep (hc1.keep hk) hA)) ?_
      intro w2 B2 hc2 _ _
      refine rk ?_
      refine gS 10 (x:=nI (cA .i64 ((l1.length:Int)+1))) (nI ((l1++[(St.mk 6 us (Ex.mk uo ut uv un uk) uB uL)]).length:Nat)) (by rw [cR (by omega) (by omega)];congr 1;simp) ?_
      exact gU _ [(0,vP b),(2,vI (deep:Int)),(8,vL a n cap),(9,vI (n:Int)),(10,vI ((l1++[(St.mk 6 us (Ex.mk uo ut uv un uk) uB uL)]).length:Int))] [] gz hγ0 (ih2 (l1++[(St.mk 6 us (Ex.mk uo ut uv un uk) uB uL)],l3) _ _ ⟨by show L=(l1++[_])++l3;rw [hI];simp,_,htn,by simpa only [aK] using hc2⟩ lS1)
end
section
theorem lM {α:Type} {f:α→Option (List UInt8)} {ok:α→Bool}:∀ (l:List α),(∀ x∈l,(f x).isSome=ok x)→(cE f l).isSome=!(l.any fun x=>!(ok x))
 | [],_=>rfl
 | x::l,h=>by
   have h1:=h x (by simp)
   have ih:=lM l (fun y hy=>h y (by simp [hy]))
   simp only [cE,List.any_cons]
   cases hx:f x with
   | none=>rw [hx] at h1;rw [← h1];simp
   | some t=>
     rw [hx] at h1
     rw [← h1]
     cases ht:cE f l with
     | none=>rw [ht] at ih;simp at ih ⊢;exact ih
     | some s=>rw [ht] at ih;simp at ih ⊢;exact ih
theorem aMv (x:Th) (h:thR x):(thT x).isSome=okT x:=by
 have h1:=lM (f:=vrT [32,32,108,111,99,97,108]) (ok:=okV) x.locals (fun v hv=>aKk _ v (h.1 v hv))
 unfold thT okT okB
 cases ha:cE (vrT [32,32,108,111,99,97,108]) x.locals with
 | none=>rw [ha] at h1;rw [← h1];simp
 | some a=>
   rw [ha] at h1
   rw [← h1]
   cases hb:dQ 0 x.body with
   | none=>simp
   | some b=>cases hn:b7 x.name <;> simp
theorem aMr (m:List UInt8):(mxT m).isSome=b7 m:=by
 unfold mxT
 cases hn:b7 m <;> simp
theorem aD6 (p:Pg) (h:pgR p):(pgT p).isSome=okP p:=by
 have h1:=lM (f:=vrT [115,104,97,114,101,100]) (ok:=okV) p.shared (fun v hv=>aKk _ v (h.1 v hv))
 have h2:=lM (f:=mxT) (ok:=b7) p.mutexes (fun m _=>aMr m)
 have h3:=lM (f:=thT) (ok:=okT) p.threads (fun x hx=>aMv x (h.2 x hx))
 unfold pgT okP
 rw [← h1,← h2,← h3]
 cases cE (vrT [115,104,97,114,101,100]) p.shared <;> cases cE mxT p.mutexes <;> cases cE thT p.threads <;> rfl
theorem Ch.give {k:Nat} {w1:World} {A B1:Nat→Prop} (hq:w1.heap[k]?=some (.cells #[.pointer none,.slice none 0 0] 70 (0,0))) (hB:B1 k) (hA:∀ j,A j→B1 j) (hn:¬ A k) (hB1:∀ j,B1 j→j<w1.heap.size):Ch k [] A w1 w1 B1:=by
 have hF:∀ j,BuF k w1 j↔j=k:=fun j=>by rw [BuF.at_ hq];simp [Value.ownBlock]
 refine ⟨⟨_,none,0,0,.inl rfl,hq,World.ownsRow_nil _ _ _ _,by simp [Value.ownBlock],fun _=>rfl⟩,fun j hj=>?_,hA,Sy.Keep.refl _ _,fun j hj => .inl hj,fun j hj=>⟨hB1 j (hA j hj),fun h=>?_⟩⟩
 · rw [(hF j).1 hj];exact hB
 · rw [(hF j).1 h] at hj;exact hn hj
section
open Go.Sy
variable {I:Aux} {B:Nat→Prop} {w0:World} {γ0:Gm} {nt:Nat} {Q:Exit→Act→World→Prop} {g:Cfg}
theorem aOf (cx:Cx Tryz.prog I B w0) {b:Nat} {l:List UInt8} {A:Nat→Prop} {win:World} (hch:Ch b l A win w0 B) (h:dR Tryz.prog nt g=some (21,[Value.pointer (some ⟨b,0,none⟩)].map bW)) (hbod:dJ Tryz.prog 21=some true) (hx:d8 ([Value.pointer (some ⟨b,0,none⟩)].map bW)=some [Value.pointer (some ⟨b,0,none⟩)])
  (hown:eL eA g.s.h=true)
  (hg:∀ w' B',Keep A win w'→(∀ k,A k→B' k)→Sy.Good Tryz.prog B' w' γ0 nt Q (nx0 g (bW (.string (str l))))):Sy.Good Tryz.prog B w0 γ0 nt Q g:=by
 refine pF cx [.pointer (some ⟨b,0,none⟩)] (BuF b w0) (Pr:=fun w r w'=>r = .string (str l)) h hbod hx hown hch.bB (fun w hk=>?_) ?_
 · obtain ⟨h1,h2⟩:=hch.seen hk
   exact (aIt b l w h1).mono fun e w' ⟨e1,e2⟩=>⟨_,e1,rfl,e2.mono fun k hk2=>⟨hk2.1,fun hF=>hk2.2 ((h2 k).1 hF)⟩⟩
 · rintro w r w' B' hk rfl h1 h2 h3 h4 h5
   exact hg w' B' (hch.kp.trans (h2.mono fun k hA=>⟨hch.AB k hA,hch.disj hA⟩)) (fun k hA=>h3 k (hch.AB k hA))
end
end
section
theorem aKi {p:Pg} {t:List UInt8} (h:pgT p=some t):∃ a b c,cE (vrT [115,104,97,114,101,100]) p.shared=some a∧cE mxT p.mutexes=some b∧cE thT p.threads=some c∧t=a++(b++c):=by
 unfold pgT at h
 cases h1:cE (vrT [115,104,97,114,101,100]) p.shared with
 | none=>rw [h1] at h;cases h
 | some a=>
   cases h2:cE mxT p.mutexes with
   | none=>rw [h1,h2] at h;cases h
   | some b=>
     cases h3:cE thT p.threads with
     | none=>rw [h1,h2,h3] at h;cases h
     | some c=>
       rw [h1,h2,h3] at h
       injection h with h
       exact ⟨a,b,c,rfl,rfl,rfl,h.symm⟩
theorem aJt {x:Th} {t:List UInt8} (h:thT x=some t):∃ a b,cE (vrT [32,32,108,111,99,97,108]) x.locals=some a∧dQ 0 x.body=some b∧t=([116,104,114,101,97,100,32]++x.name++[32,123,10])++(a++(b++[125,10])):=by
 unfold thT at h
 cases h1:cE (vrT [32,32,108,111,99,97,108]) x.locals with
 | none=>rw [h1] at h;cases h
 | some a=>
   cases h2:dQ 0 x.body with
   | none=>rw [h1,h2] at h;cases h
   | some b=>
     rw [h1,h2] at h
     simp only at h
     split at h
     · injection h with h
       exact ⟨a,b,rfl,rfl,by rw [← h];simp⟩
     · cases h
theorem aJ7 {m t:List UInt8} (h:mxT m=some t):t=[109,117,116,101,120,32]++m++[59,10]:=by
 unfold mxT at h
 split at h
 · injection h with h
   rw [← h];simp
 · cases h
open Go.Sy in
set_option maxRecDepth 100000 in
theorem aK7 (p:Pg) (cs:List Value) (w:World) (hB:pgB p≤400000000000) (hR:pgR p) (ht:Tab w) (hlen:∀ t,pgT p=some t→t.length≤140737488355328) (hp:PgAt (·<w.heap.size) w p cs):
  CB 6 #[.agg cs.toArray] w (.tuple #[nT (oW p),nI (kQ p)]):=by
 have hp0:=hp
 obtain ⟨a,cap,xs,b,cap2,ys,d,cap3,zs,rfl,_⟩:=hp0
 refine eN [.agg #[.slice a p.shared.length cap,.slice b p.mutexes.length cap2,.slice d p.threads.length cap3]] Tryz.func6 (fun γ0 hγ0=>?_)
 refine rk ?_
 cases hv:pgT p with
 | none=>
   refine gX [.agg #[.slice a p.shared.length cap,.slice b p.mutexes.length cap2,.slice d p.threads.length cap3]] (.bool false) (fun W hk=>by
    have:=xS p [.slice a p.shared.length cap,.slice b p.mutexes.length cap2,.slice d p.threads.length cap3] W hB hR (ht.below (Keep.below hk)) (hp.keep hk (kU hk))
    rw [← aD6 p hR,hv] at this
    exact this) ?_
   refine rs [] 60 4 ?_
   exact gR (.tuple #[nT [],nI 2]) (fun W hk=>⟨by unfold oW kQ;rw [hv],hk.below⟩)
 | some t=>
   have hlen:=hlen t hv
   obtain ⟨tS,tM,tT,hS,hM,hT,rfl⟩:=aKi hv
   unfold pgB at hB
   obtain ⟨hRs,hRt⟩:=id hR
   have hl1:=jW (μ:=vrB) (fun v=>by unfold vrB;omega) p.shared
   have hl2:=jW (μ:=txB) (fun v=>by unfold txB;omega) p.mutexes
   have hl3:=jW (μ:=thB) (fun v=>by unfold thB;omega) p.threads
   obtain ⟨a',cap',xs',b',cap2',ys',d',cap3',zs',he,hxs,hxt,hys,hyt,hzs,hzt⟩:=id hp
   simp only [List.cons.injEq,Value.slice.injEq,true_and,and_true] at he
   obtain ⟨⟨rfl,rfl⟩,⟨rfl,rfl⟩,rfl,rfl⟩:=he
   refine gX [.agg #[.slice a p.shared.length cap,.slice b p.mutexes.length cap2,.slice d p.threads.length cap3]] (.bool true) (fun W hk=>by
    have:=xS p [.slice a p.shared.length cap,.slice b p.mutexes.length cap2,.slice d p.threads.length cap3] W hB hR (ht.below (Keep.below hk)) (hp.keep hk (kU hk))
    rw [← aD6 p hR,hv] at this
    exact this) ?_
   refine rs [] 60 2 ?_
   refine gG 4 (gz+1) 70 [.pointer none,.slice none 0 0] (fun q w1 B1 hk1 hB01 hBq hnq hB1 hq=>?_)
   have hch:=Ch.give hq hBq hB01 hnq hB1
   have hk1:Keep (·<w.heap.size) w w1:=hk1
   obtain ⟨A,hA⟩:∃ A:Nat→Prop,A=(·<w.heap.size):=⟨_,rfl⟩
   have hch:Ch q [] A w1 w1 B1:=by rw [hA];exact hch
   have KW:∀ {l B w3} (h:Ch q l A w1 w3 B) {W},Keep B w3 W→Keep (·<w.heap.size) w W:=fun h W hk=>by
    have:=h.keep hk
    rw [hA] at this
    exact hk1.trans this
   have OUT:∀ {l B w3} (h:Ch q l A w1 w3 B) {W},(∀ k,A k→Out q W k)→∀ k,k<w.heap.size→Out q W k:=fun h W hh k hk=>hh k (by rw [hA];exact hk)
   refine rk ?_
   refine cF ?_
   refine fO (fun i:List Vr×List Vr=>i.2.length) (fun i B3 w3=>p.shared=i.1++i.2∧∃ t1,cE (vrT [115,104,97,114,101,100]) i.1=some t1∧Ch q t1 A w1 w3 B3) (fun i=>⟨mkT [(1,.ptr gz 0),(4,vP q),(17,vL a p.shared.length cap),(18,vI (p.shared.length:Int)),(19,vI (i.1.length:Int))],mkH [(gz,bK 27 3 [vL a p.shared.length cap,vL b p.mutexes.length cap2,vL d p.threads.length cap3])],gz+2,[]⟩)
    ([],p.shared) ⟨rfl,[],rfl,hch⟩ (by kernel_rfl)
    (fun h=>gU _ [(1,.ptr gz 0),(4,vP q),(17,vL a p.shared.length cap),(18,vI (p.shared.length:Int)),(19,vI (([]:List Vr).length:Int))] [(gz,bK 27 3 [vL a p.shared.length cap,vL b p.mutexes.length cap2,vL d p.threads.length cap3])] (gz+2) (gA hγ0) h) ?_
   rintro ⟨l1,l2⟩ B3 w3 ⟨hI1,t1,ht1,hc3⟩ ih3
   have hI1:p.shared=l1++l2:=hI1
   have ht1:cE (vrT [115,104,97,114,101,100]) l1=some t1:=ht1
   have hnl1:p.shared.length=l1.length+l2.length:=by rw [hI1,aA]
   refine rk ?_
   cases l2 with
   | cons v l3=>
     have hT2:=hS
     have hks2:=hxt
     rw [hI1] at hT2 hks2
     obtain ⟨tx,t3,htx,htt,htn⟩:=qP hT2 ht1
     obtain ⟨c,hc,hcell⟩:=hks2.at_ (fun _ _ h=>h.len)
     obtain rfl:c=[nT v.name,n8 v.ty,n6 v.bits]:=hc
     have hin:l1.length<p.shared.length:=by rw [hnl1,aB];omega
     have hlt:=congrArg List.length htt
     simp only [aA] at hlt
     refine kx (l1.length:Int) (p.shared.length:Int) (by omega) (rk ?_)
     refine gI 23 47 cap l1.length hxs hin (rk ?_)
     refine gV (.agg #[nT v.name,n8 v.ty,n6 v.bits]) (S:=Instr.loadAt 47 (.pointer (some ⟨gB a,oB a+l1.length*3+0,none⟩))) (fun W hk=>d9 (P:=Tryz.prog) (ty:=47) (m:=3) (cs:=[nT v.name,n8 v.ty,n6 v.bits]) hxs (by kernel_rfl) (by kernel_rfl) l1.length 0 rfl (fun j v hv=>by rw [Nat.add_zero];exact hcell j v hv) (W:=W) (KW hc3 hk)) (rk ?_)
     refine gH [nP q,nT [115,104,97,114,101,100],.agg #[nT v.name,n8 v.ty,n6 v.bits]] q (tx) (.tuple #[]) hc3 (fun W hk hbu hA=>wC [115,104,97,114,101,100] v tx _ q W (hRs v (by rw [hI1];simp)) (ht.below (KW hc3 hk).below) htx hbu (by simp only [aA,aB,aD] at hlen ⊢;omega)) ?_
     intro w9 B9 hc9 _ _
     refine rk ?_
     refine gS 19 (x:=nI (cA .i64 ((l1.length:Int)+1))) (nI ((l1++[v]).length:Nat)) (by rw [cR (by omega) (by omega)];congr 1;simp) ?_
     exact gU _ [(1,.ptr gz 0),(4,vP q),(17,vL a p.shared.length cap),(18,vI (p.shared.length:Int)),(19,vI ((l1++[v]).length:Int))] [(gz,bK 27 3 [vL a p.shared.length cap,vL b p.mutexes.length cap2,vL d p.threads.length cap3])] (gz+2) (gA hγ0) (ih3 (l1++[v],l3) _ _ ⟨by show p.shared=(l1++[_])++l3;rw [hI1];simp,_,htn,by simpa only [aK] using hc9⟩ lS1)
   | nil=>
     rw [hI1,bF,ht1] at hS
     injection hS with hS
     subst hS
     refine ky (l1.length:Int) (p.shared.length:Int) (by simp at hnl1;omega) (rk ?_)
     refine cF ?_
     refine fO (fun i:List (List UInt8)×List (List UInt8)=>i.2.length) (fun i B4 w4=>p.mutexes=i.1++i.2∧∃ t2,cE mxT i.1=some t2∧Ch q (t1++t2) A w1 w4 B4) (fun i=>⟨mkT [(1,.ptr gz 0),(4,vP q),(27,vL b p.mutexes.length cap2),(28,vI (p.mutexes.length:Int)),(29,vI (i.1.length:Int))],mkH [(gz,bK 27 3 [vL a p.shared.length cap,vL b p.mutexes.length cap2,vL d p.threads.length cap3])],gz+2,[]⟩)
      ([],p.mutexes) ⟨rfl,[],rfl,by rw [bF];exact hc3⟩ (by kernel_rfl)
      (fun h=>gU _ [(1,.ptr gz 0),(4,vP q),(27,vL b p.mutexes.length cap2),(28,vI (p.mutexes.length:Int)),(29,vI (([]:List (List UInt8)).length:Int))] [(gz,bK 27 3 [vL a p.shared.length cap,vL b p.mutexes.length cap2,vL d p.threads.length cap3])] (gz+2) (gA hγ0) h) ?_
     rintro ⟨m1,m2⟩ B4 w4 ⟨hI2,t2,ht2,hc4⟩ ih4
     have hI2:p.mutexes=m1++m2:=hI2
     have ht2:cE mxT m1=some t2:=ht2
     have hnm1:p.mutexes.length=m1.length+m2.length:=by rw [hI2,aA]
     refine rk ?_
     cases m2 with
     | cons s m3=>
       have hT2:=hM
       have hks2:=hyt
       rw [hI2] at hT2 hks2
       obtain ⟨tx,t3,htx,htt,htn⟩:=qP hT2 ht2
       obtain ⟨c,hc,hcell⟩:=hks2.at_ (k:=1) (fun _ _ h=>by rw [show _=_ from h];rfl)
       obtain rfl:c=[nT s]:=hc
       obtain rfl:=aJ7 htx
       have hin:m1.length<p.mutexes.length:=by rw [hnm1,aB];omega
       have hlt:=congrArg List.length htt
       simp only [aA,aB,aD] at hlt
       refine kx (m1.length:Int) (p.mutexes.length:Int) (by omega) (rk ?_)
       refine gI 24 9 cap2 m1.length hys hin (rk ?_)
       refine gV (nT s) (S:=Instr.loadAt 9 (.pointer (some ⟨gB b,oB b+m1.length*1+0,none⟩))) (fun W hk=>load_sl hys (by kernel_rfl) m1.length 0 (by rw [Nat.add_zero];exact hcell 0 _ rfl) (KW hc4 hk)) (rs [35] 60 0 ?_)
       refine gC ([109,117,116,101,120,32]) (s) (by simp only [aA,aB,aD] at hlen ⊢;omega) (rs [36] 60 0 ?_)
       refine gC ([109,117,116,101,120,32]++s) ([59,10]) (by simp only [aA,aB,aD] at hlen ⊢;omega) (rk ?_)
       refine gw q ([109,117,116,101,120,32]++s++[59,10]) hc4 (by simp only [aA,aB,aD] at hlen ⊢;omega) ?_
       intro w9 B9 hc9 _ _
       refine rk ?_
       refine gS 29 (x:=nI (cA .i64 ((m1.length:Int)+1))) (nI ((m1++[s]).length:Nat)) (by rw [cR (by omega) (by omega)];congr 1;simp) ?_
       exact gU _ [(1,.ptr gz 0),(4,vP q),(27,vL b p.mutexes.length cap2),(28,vI (p.mutexes.length:Int)),(29,vI ((m1++[s]).length:Int))] [(gz,bK 27 3 [vL a p.shared.length cap,vL b p.mutexes.length cap2,vL d p.threads.length cap3])] (gz+2) (gA hγ0) (ih4 (m1++[s],m3) _ _ ⟨by show p.mutexes=(m1++[_])++m3;rw [hI2];simp,_,htn,by simpa only [aK] using hc9⟩ lS1)
     | nil=>
       rw [hI2,bF,ht2] at hM
       injection hM with hM
       subst hM
       refine ky (m1.length:Int) (p.mutexes.length:Int) (by simp at hnm1;omega) (rk ?_)
       refine cF ?_
       refine fO (fun i:List Th×List Th=>i.2.length) (fun i B5 w5=>p.threads=i.1++i.2∧∃ t3,cE thT i.1=some t3∧Ch q (t1++(t2++t3)) A w1 w5 B5) (fun i=>⟨mkT [(1,.ptr gz 0),(4,vP q),(40,vL d p.threads.length cap3),(41,vI (p.threads.length:Int)),(42,vI (i.1.length:Int))],mkH [(gz,bK 27 3 [vL a p.shared.length cap,vL b p.mutexes.length cap2,vL d p.threads.length cap3])],gz+2,[]⟩)
        ([],p.threads) ⟨rfl,[],rfl,by rw [bF];exact hc4⟩ (by kernel_rfl)
        (fun h=>gU _ [(1,.ptr gz 0),(4,vP q),(40,vL d p.threads.length cap3),(41,vI (p.threads.length:Int)),(42,vI (([]:List Th).length:Int))] [(gz,bK 27 3 [vL a p.shared.length cap,vL b p.mutexes.length cap2,vL d p.threads.length cap3])] (gz+2) (gA hγ0) h) ?_
       rintro ⟨k1,k2⟩ B5 w5 ⟨hI3,t3,ht3,hc5⟩ ih5
       have hI3:p.threads=k1++k2:=hI3
       have ht3:cE thT k1=some t3:=ht3
       have hnk1:p.threads.length=k1.length+k2.length:=by rw [hI3,aA]
       refine rk ?_
       cases k2 with
       | cons x k3=>
         have hT2:=hT
         have hks2:=hzt
         rw [hI3] at hT2 hks2
         obtain ⟨ty,t4,hty,htt,hto⟩:=qP hT2 ht3
         obtain ⟨c,hc,hcell⟩:=hks2.at_ (k:=3) (fun _ _ h=>h.len)
         have hxR:=hRt x (by rw [hI3];simp)
         have hxB:x.name.length+1+i7 vrB x.locals+j4 x.body≤i7 thB p.threads:=jV (μ:=thB) (x:=x) (l:=p.threads) (by rw [hI3];simp)
         obtain ⟨hxRl,hxRb⟩:=hxR
         have hkl:=jW (μ:=vrB) (fun v=>by unfold vrB;omega) x.locals
         have hkb:=oM x.body
         obtain ⟨xa,xcap,xxs,xb,xcap2,xys,rfl,xh1,xh2,xh3,xh4⟩:=hc
         obtain ⟨tA,tB,hTA,hTB,rfl⟩:=aJt hty
         have hin:k1.length<p.threads.length:=by rw [hnk1,aB];omega
         have hlt:=congrArg List.length htt
         simp only [aA,aB,aD] at hlt
         refine kx (k1.length:Int) (p.threads.length:Int) (by omega) (rk ?_)
         refine gI 25 56 cap3 k1.length hzs hin (rk ?_)
         refine gV (.agg #[nT x.name,.slice xa x.locals.length xcap,.slice xb x.body.length xcap2]) (S:=Instr.loadAt 56 (.pointer (some ⟨gB d,oB d+k1.length*3+0,none⟩))) (fun W hk=>d9 (P:=Tryz.prog) (ty:=56) (m:=3) (cs:=[nT x.name,.slice xa x.locals.length xcap,.slice xb x.body.length xcap2]) hzs (by kernel_rfl) (by kernel_rfl) k1.length 0 rfl (fun j v hv=>by rw [Nat.add_zero];exact hcell j v hv) (W:=W) (KW hc5 hk)) (rs [49] 60 0 ?_)
         refine gC ([116,104,114,101,97,100,32]) (x.name) (by simp only [aA,aB,aD] at hlen ⊢;omega) (rs [50] 60 0 ?_)
         refine gC ([116,104,114,101,97,100,32]++x.name) ([32,123,10]) (by simp only [aA,aB,aD] at hlen ⊢;omega) (rk ?_)
         refine gw q ([116,104,114,101,97,100,32]++x.name++[32,123,10]) hc5 (by simp only [aA,aB,aD] at hlen ⊢;omega) ?_
         intro w6 B6 hc6 _ _
         refine rk ?_
         refine cF ?_
         refine fO (fun i:List Vr×List Vr=>i.2.length) (fun i B7 w7=>x.locals=i.1++i.2∧∃ t6,cE (vrT [32,32,108,111,99,97,108]) i.1=some t6∧Ch q ((t1++(t2++t3))++(([116,104,114,101,97,100,32]++x.name++[32,123,10])++t6)) A w1 w7 B7) (fun i=>⟨mkT [(1,.ptr gz 0),(4,vP q),(40,vL d p.threads.length cap3),(41,vI (p.threads.length:Int)),(42,vI (k1.length:Int)),(10,.ptr (gz+2) 0),(53,vL xa x.locals.length xcap),(54,vI (x.locals.length:Int)),(55,vI (i.1.length:Int))],mkH [(gz,bK 27 3 [vL a p.shared.length cap,vL b p.mutexes.length cap2,vL d p.threads.length cap3]),(gz+2,bK 56 3 [vT x.name,vL xa x.locals.length xcap,vL xb x.body.length xcap2])],gz+3,[]⟩)
          ([],x.locals) ⟨rfl,[],rfl,by rw [bF];exact hc6⟩ (by kernel_rfl)
          (fun h=>gU _ [(1,.ptr gz 0),(4,vP q),(40,vL d p.threads.length cap3),(41,vI (p.threads.length:Int)),(42,vI (k1.length:Int)),(10,.ptr (gz+2) 0),(53,vL xa x.locals.length xcap),(54,vI (x.locals.length:Int)),(55,vI (([]:List Vr).length:Int))] [(gz,bK 27 3 [vL a p.shared.length cap,vL b p.mutexes.length cap2,vL d p.threads.length cap3]),(gz+2,bK 56 3 [vT x.name,vL xa x.locals.length xcap,vL xb x.body.length xcap2])] (gz+3) (gA hγ0) h) ?_
         rintro ⟨j1,j2⟩ B7 w7 ⟨hI4,t6,ht6,hc7⟩ ih7
         have hI4:x.locals=j1++j2:=hI4
         have ht6:cE (vrT [32,32,108,111,99,97,108]) j1=some t6:=ht6
         have hnj1:x.locals.length=j1.length+j2.length:=by rw [hI4,aA]
         refine rk ?_
         cases j2 with
         | cons v j3=>
           have xh1k:=xh1
           have hT2:=hTA
           have hks2:=xh2
           rw [hI4] at hT2 hks2
           obtain ⟨tx,t8,htx,htt6,htn⟩:=qP hT2 ht6
           obtain ⟨c6,hc6x,hcell6⟩:=hks2.at_ (fun _ _ h=>h.len)
           obtain rfl:c6=[nT v.name,n8 v.ty,n6 v.bits]:=hc6x
           have hin:j1.length<x.locals.length:=by rw [hnj1,aB];omega
           have hlt6:=congrArg List.length htt6
           simp only [aA] at hlt6
           refine kx (j1.length:Int) (x.locals.length:Int) (by omega) (rk ?_)
           refine gI 23 47 xcap j1.length xh1 hin (rk ?_)
           refine gV (.agg #[nT v.name,n8 v.ty,n6 v.bits]) (S:=Instr.loadAt 47 (.pointer (some ⟨gB xa,oB xa+j1.length*3+0,none⟩))) (fun W hk=>d9 (P:=Tryz.prog) (ty:=47) (m:=3) (cs:=[nT v.name,n8 v.ty,n6 v.bits]) xh1 (by kernel_rfl) (by kernel_rfl) j1.length 0 rfl (fun j v hv=>by rw [Nat.add_zero];exact hcell6 j v hv) (W:=W) (KW hc7 hk)) (rk ?_)
           refine gH [nP q,nT [32,32,108,111,99,97,108],.agg #[nT v.name,n8 v.ty,n6 v.bits]] q (tx) (.tuple #[]) hc7 (fun W hk hbu hA=>wC [32,32,108,111,99,97,108] v tx _ q W (hxRl v (by rw [hI4];simp)) (ht.below (KW hc7 hk).below) htx hbu (by simp only [aA,aB,aD] at hlen ⊢;omega)) ?_
           intro w9 B9 hc9 _ _
           refine rk ?_
           refine gS 55 (x:=nI (cA .i64 ((j1.length:Int)+1))) (nI ((j1++[v]).length:Nat)) (by rw [cR (by omega) (by omega)];congr 1;simp) ?_
           exact gU _ [(1,.ptr gz 0),(4,vP q),(40,vL d p.threads.length cap3),(41,vI (p.threads.length:Int)),(42,vI (k1.length:Int)),(10,.ptr (gz+2) 0),(53,vL xa x.locals.length xcap),(54,vI (x.locals.length:Int)),(55,vI ((j1++[v]).length:Int))] [(gz,bK 27 3 [vL a p.shared.length cap,vL b p.mutexes.length cap2,vL d p.threads.length cap3]),(gz+2,bK 56 3 [vT x.name,vL xa x.locals.length xcap,vL xb x.body.length xcap2])] (gz+3) (gA hγ0) (ih7 (j1++[v],j3) _ _ ⟨by show x.locals=(j1++[_])++j3;rw [hI4];simp,_,htn,by simpa only [aK] using hc9⟩ lS1)
         | nil=>
           rw [hI4,bF,ht6] at hTA
           injection hTA with hTA
           subst hTA
           refine ky (j1.length:Int) (x.locals.length:Int) (by simp at hnj1;omega) (rk ?_)
           refine gH [nP q,.slice xb x.body.length xcap2,nI ((0:Nat):Int)] q (tB) (.tuple #[]) hc7 (fun W hk hbu hA=>aVx _ x.body xb x.body.length xcap2 xys 0 tB _ q W rfl (Nat.lt_succ_self _) (by omega) (by omega) (by omega) hxRb (ht.below (KW hc7 hk).below) hTB hbu (by simp only [aA,aB,aD] at hlen ⊢;omega) ((xh3.keep (KW hc7 hk)).mono (OUT hc7 hA)) (StsAt_ls.1 (xh4.keep (KW hc7 hk) (OUT hc7 hA)))) ?_
           intro w8 B8 hc8 _ _
           refine rk ?_
           refine gw q ([125,10]) hc8 (by simp only [aA,aB,aD] at hlen ⊢;omega) ?_
           intro w9 B9 hc9 _ _
           refine rk ?_
           refine gS 42 (x:=nI (cA .i64 ((k1.length:Int)+1))) (nI ((k1++[x]).length:Nat)) (by rw [cR (by omega) (by omega)];congr 1;simp) ?_
           exact gU _ [(1,.ptr gz 0),(4,vP q),(40,vL d p.threads.length cap3),(41,vI (p.threads.length:Int)),(42,vI ((k1++[x]).length:Int))] [(gz,bK 27 3 [vL a p.shared.length cap,vL b p.mutexes.length cap2,vL d p.threads.length cap3])] (gz+2) (gA hγ0) (ih5 (k1++[x],k3) _ _ ⟨by show p.threads=(k1++[_])++k3;rw [hI3];simp,_,hto,by simpa only [aK] using hc9⟩ lS1)
       | nil=>
         rw [hI3,bF,ht3] at hT
         injection hT with hT
         subst hT
         refine ky (k1.length:Int) (p.threads.length:Int) (by simp at hnk1;omega) (rk ?_)
         refine gX [nP q] (nI (((t1++(t2++t3):List UInt8).length:Nat):Int)) (fun W hk=>aPl q _ W (hc5.seen hk).1) (rk ?_)
         by_cases hm:16384<(t1++(t2++t3)).length
         ·
          refine kx 16384 (((t1++(t2++t3):List UInt8).length:Nat):Int) (by omega) (rs [] 60 1 ?_)
          exact gR (.tuple #[nT [],nI 3]) (fun W hk=>⟨by unfold oW kQ;rw [hv];simp only [if_pos hm],(KW hc5 hk).below⟩)
         refine ky 16384 (((t1++(t2++t3):List UInt8).length:Nat):Int) (by omega) (rk ?_)
         refine aOf (bV _ _) hc5 (by kernel_rfl) (by kernel_rfl) (by kernel_rfl) (by kernel_rfl) (fun w4 B4 hk4 hB4=>?_)
         refine rk ?_
         rw [hA] at hk4 hB4
         exact gR (.tuple #[nT (t1++(t2++t3)),nI 0]) (fun W hk=>⟨by unfold oW kQ;rw [hv];simp only [if_neg hm],((hk1.trans hk4).trans (hk.mono hB4)).below⟩)
end
section
theorem aVe {n:Nat} (h:n<9223372036854775808):(n:Int)<b8:=by unfold b8;omega
theorem aO1 {n:Nat} (h:¬ n<9223372036854775808):¬ (n:Int)<b8:=by unfold b8;omega
theorem aQ9 {n:Nat} (h:¬ 9223372036854775808<n):eG 1 (n:Int)=dA 1 (n:Int):=by
 rw [aSg]
 unfold eG
 rw [if_pos rfl]
 by_cases hy:(n:Int)<b8
 · rw [if_pos hy,if_pos hy]
 · rw [if_neg hy,if_neg hy,if_pos (show (n:Int)=b8 by unfold b8 at hy ⊢;omega)]
theorem aRn {n m:Nat} (h:9223372036854775808<n) (hm:(m:Int)=18446744073709551616 - (n:Int)):eG 1 (n:Int)=some ([45]++Lib.decDigits m):=by
 unfold eG
 rw [if_pos rfl,if_neg (show ¬ (n:Int)<b8 by unfold b8;omega),if_neg (show ¬ (n:Int)=b8 by unfold b8;omega),← hm,Int.toNat_natCast,bS]
theorem aNv {n:Nat} (h:n<9223372036854775808):eG 3 (n:Int)=dA 3 (n:Int):=by
 unfold eG
 rw [if_neg (by decide),if_pos rfl,if_pos (aVe h)]
theorem aOx {n m:Nat} (h:¬ n<9223372036854775808) (hm:(m:Int)=(n:Int) - b8) (hq:(m:Int)=nanBits):eG 3 (n:Int)=none:=by
 unfold eG
 rw [if_neg (by decide),if_pos rfl,if_neg (aO1 h),← hm,if_pos hq]
theorem aNg {n m:Nat} (h:¬ n<9223372036854775808) (hm:(m:Int)=(n:Int) - b8) (hq:¬ (m:Int)=nanBits):eG 3 (n:Int)=(dA 3 (m:Int)).map (45::·):=by
 unfold eG
 rw [if_neg (by decide),if_pos rfl,if_neg (aO1 h),← hm,if_neg hq]
theorem aMf {ty:Int} (c1:¬ ty=1) (c3:¬ ty=3) (n:Int):eG ty n=dA ty n:=by
 unfold eG
 rw [if_neg c1,if_neg c3]
end
section
theorem wU:∀ (k n:Nat),n<10 ^ (k+1)→(Lib.decDigits n).length≤k+1
 | 0,n,h=>by
   rw [Lib.decDigits,dif_pos (by simpa using h)]
   simp
 | k+1,n,h=>by
   rw [Lib.decDigits]
   split
   · simp
   · have:=wU k (n / 10) (by rw [Nat.pow_succ] at h;omega)
     simp
     omega
theorem rN {n:Nat} (h:n<18446744073709551616):(Lib.decDigits n).length≤20:=wU 19 n (Nat.lt_trans h (by decide))
theorem k5 {ty:Int} {n:Nat} {t:List UInt8} (hn:n<18446744073709551616) (h:dA ty (n:Int)=some t):t.length≤1048600:=by
 unfold dA at h
 split at h
 · split at h
   · injection h with h
     have:=rN hn
     rw [← h]
     show (Lib.decDigits ((n:Int).toNat)).length≤_
     rw [Int.toNat_natCast]
     omega
   · cases h
 split at h
 · split at h
   · injection h with h;rw [← h];simp
   · split at h
     · injection h with h;rw [← h];simp
     · cases h
 split at h
 · split at h
   · injection h with h;rw [← h];simp
   · split at h
     · injection h with h;rw [← h];simp
     · split at h
       · have:=(fD h).2.2.len;omega
       · cases h
 · cases h
end
section
mutual
theorem tG:∀ (e:Ex) {t:List UInt8},exR e→exT e=some t→t.length≤1048600*exB e
 | .mk op ty bits name kids,t,hR,h=>by
   simp only [exR] at hR
   obtain ⟨_,_,hb,hk⟩:=hR
   simp only [exB]
   rcases tE h with ⟨rfl,rfl,hl⟩ | ⟨rfl,rfl,rfl⟩ | ⟨rfl,x,tx,rfl,hx,rfl⟩ | ⟨rfl,x,tx,rfl,hx,rfl⟩ | ⟨rfl,x,tx,rfl,hx,rfl⟩ | ⟨rfl,x,tx,rfl,hx,rfl⟩ | ⟨_,x,y,tx,ty',rfl,hx,hy,rfl⟩
   · obtain ⟨n,rfl⟩:∃ n:Nat,bits=(n:Int):=⟨bits.toNat,by omega⟩
     have:=k5 (by omega) hl
     omega
   · omega
   all_goals
    simp only [jS] at hk
    have h1:=tG x hk.1 hx
    simp only [iW,aA,aB,aD]
   · omega
   · omega
   · omega
   · omega
   · have h2:=tG y hk.2.1 hy
     have h3:=tW op
     omega
end
end
section
theorem aRr {ty:Int} {n:Nat} {t:List UInt8} (hn:n<18446744073709551616) (h:eG ty (n:Int)=some t):t.length≤1048601:=by
 by_cases h1:ty=1
 · subst h1
   by_cases hz:9223372036854775808<n
   · obtain ⟨m,hm⟩:∃ m:Nat,(m:Int)=18446744073709551616 - (n:Int):=⟨18446744073709551616 - n,by omega⟩
     rw [aRn hz hm] at h
     injection h with h
     have:=rN (n:=m) (by omega)
     rw [← h]
     simp
     omega
   · rw [aQ9 hz] at h
     have:=k5 hn h
     omega
 by_cases h3:ty=3
 · subst h3
   by_cases hz:n<9223372036854775808
   · rw [aNv hz] at h
     have:=k5 hn h
     omega
   · obtain ⟨m,hm⟩:∃ m:Nat,(m:Int)=(n:Int) - b8:=⟨n - 9223372036854775808,by unfold b8;omega⟩
     have hm2:(m:Int)=(n:Int) - 9223372036854775808:=hm
     by_cases hq:(m:Int)=nanBits
     · rw [aOx hz hm hq] at h
       cases h
     · rw [aNg hz hm hq,Option.map_eq_some_iff] at h
       obtain ⟨s,hs,rfl⟩:=h
       have:=k5 (n:=m) (by omega) hs
       simp
       omega
 rw [aMf h1 h3] at h
 have:=k5 hn h
 omega
theorem aTu {wd:List UInt8} (hwd:wd.length≤100) {v:Vr} (hR:vrR v) {t:List UInt8} (h:vrT wd v=some t):t.length≤1048900*vrB v:=by
 obtain ⟨_,h1,h2⟩:=hR
 unfold vrT at h
 split at h
 rotate_left
 · cases h
 rw [Option.map_eq_some_iff] at h
 obtain ⟨s,hs,rfl⟩:=h
 obtain ⟨n,hn⟩:∃ n:Nat,v.bits=(n:Int):=⟨v.bits.toNat,by omega⟩
 rw [hn] at hs
 have:=aRr (by omega) hs
 have h4:(fL v.ty).length≤4:=by
  unfold fL
  by_cases c:v.ty=2
  · rw [if_pos c];decide
  · rw [if_neg c]
    by_cases d:v.ty=3
    · rw [if_pos d];decide
    · rw [if_neg d];decide
 unfold vrB
 simp only [aA,aB,aD]
 omega
theorem wW {wd:List UInt8} (hwd:wd.length≤100):∀ {l:List Vr} {t:List UInt8},(∀ v∈l,vrR v)→cE (vrT wd) l=some t→t.length≤1048900*i7 vrB l
 | [],t,_,h=>by
   simp only [cE,Option.some.injEq] at h
   subst h
   simp
 | v::l,t,hR,h=>by
   simp only [cE] at h
   split at h
   · cases h
   rename_i a ha
   split at h
   · cases h
   rename_i b hb
   injection h with h
   have h1:=aTu hwd (hR v (by simp)) ha
   have h2:=wW hwd (fun x hx=>hR x (by simp [hx])) hb
   rw [← h]
   simp only [i7,aA]
   omega
end
section
mutual
theorem aTl:∀ (x:St) {deep:Nat} {t:List UInt8},deep≤32→stR x→stT deep x=some t→t.length≤1048900*stB x
 | .mk kind name e body els,deep,t,hd,hR,h=>by
   obtain ⟨_,hRe,hRb,hRl⟩:=hR
   simp only [stB]
   have hm:=aOd deep
   rcases aJ6 h with ⟨rfl,te,hte,rfl⟩ | ⟨rfl,rfl⟩ | ⟨rfl,rfl⟩ | ⟨rfl,te,hte,rfl⟩ | ⟨rfl,rfl⟩ | ⟨rfl,te,tb,tl,hte,htb,htl,rfl⟩ | ⟨rfl,te,tb,tl,hte,htb,htl,rfl⟩
   · have:=tG e hRe hte
     simp only [aA,aB,aD]
     omega
   · simp only [aA,aB,aD]
     omega
   · simp only [aA,aB,aD]
     omega
   · have:=tG e hRe hte
     simp only [aA,aB,aD]
     omega
   · simp only [aA,aB,aD]
     omega
   all_goals
    have h1:=tG e hRe hte
    have h2:=vN body hRb htb
    have h3:=vN els hRl htl
    have hw5:(wdT 5).length=2:=rfl
    have hw6:(wdT 6).length=5:=rfl
    unfold nsT
    by_cases hz:0<els.length
    · rw [if_pos hz]
      simp only [aA,aB,aD]
      omega
    · rw [if_neg hz]
      simp only [aA,aB,aD]
      omega
theorem vN:∀ (L:List St) {deep:Nat} {t:List UInt8},j5 L→dQ deep L=some t→t.length≤1048900*j4 L
 | [],deep,t,_,h=>by
   simp only [dQ,Option.some.injEq] at h
   subst h
   simp
 | x::l,deep,t,hR,h=>by
   simp only [dQ] at h
   split at h
   · cases h
   split at h
   · cases h
   rename_i hd _ a ha
   split at h
   · cases h
   rename_i b hb
   injection h with h
   simp only [j5] at hR
   have h1:=aTl x (by omega) hR.1 ha
   have h2:=vN l hR.2 hb
   rw [← h]
   simp only [j4,aA]
   omega
end
end
section
theorem aA6 {α:Type} {f:α→Option (List UInt8)} {μ:α→Nat}:∀ {l:List α} {t:List UInt8},(∀ x∈l,∀ u,f x=some u→u.length≤1048900*μ x)→cE f l=some t→t.length≤1048900*i7 μ l
 | [],t,_,h=>by
   simp only [cE,Option.some.injEq] at h
   subst h
   simp
 | x::l,t,hf,h=>by
   simp only [cE] at h
   split at h
   · cases h
   rename_i a ha
   split at h
   · cases h
   rename_i b hb
   injection h with h
   have h1:=hf x (by simp) a ha
   have h2:=aA6 (fun y hy=>hf y (by simp [hy])) hb
   rw [← h]
   simp only [i7,aA]
   omega
theorem aSs {m t:List UInt8} (h:mxT m=some t):t.length≤1048900*txB m:=by
 rw [aJ7 h]
 unfold txB
 simp only [aA,aB,aD]
 omega
theorem aS5 {x:Th} {t:List UInt8} (hR:thR x) (h:thT x=some t):t.length≤1048900*thB x:=by
 obtain ⟨a,b,ha,hb,rfl⟩:=aJt h
 have h1:=wW (by decide) hR.1 ha
 have h2:=vN x.body hR.2 hb
 unfold thB
 simp only [aA,aB,aD]
 omega
theorem aS2 {p:Pg} {t:List UInt8} (hR:pgR p) (h:pgT p=some t):t.length≤1048900*pgB p:=by
 obtain ⟨a,b,c,ha,hb,hc,rfl⟩:=aKi h
 have h1:=wW (by decide) hR.1 ha
 have h2:=aA6 (μ:=txB) (fun m _ u hu=>aSs hu) hb
 have h3:=aA6 (μ:=thB) (fun x hx u hu=>aS5 (hR.2 x hx) hu) hc
 unfold pgB
 simp only [aA]
 omega
end
end Go.Proofs.YtijopiphkgddhaaGreatDoor
