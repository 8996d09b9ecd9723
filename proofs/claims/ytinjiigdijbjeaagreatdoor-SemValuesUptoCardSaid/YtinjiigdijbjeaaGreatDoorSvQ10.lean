/- Texts of this proof, one behind the other. Conditions: those in each theorem. -/
import Derived.Test.YtinjiigdijbjeaaGreatDoorSvQ9
import Derived.Test.YtinjiigdijbjeaaGreatDoorSvQ1
import Derived.Deep.Slices
import Derived.Handy
import Derived.Test.YtinjiigdijbjeaaGreatDoorSvQ8
import Derived.Test.YtinjiigdijbjeaaGreatDoorSvQ2
import Derived.Test.YtinjiigdijbjeaaGreatDoorSvQ3
set_option linter.unusedVariables false
set_option linter.unusedSimpArgs false
section
namespace Go.Proofs.YtinjiigdijbjeaaGreatDoor
open Go.RowKit Go.As Go.WideShapes Go.ChangeShapes
theorem bulk_pos {H:Type} (d:DataW H):1≤Rows.uptoBulk d:=by
 cases d with
 | lit l=>cases l <;> simp [Rows.uptoBulk]
 | nil=>simp [Rows.uptoBulk]
 | ptr d=>simp [Rows.uptoBulk]
 | slice elems spare=>simp [Rows.uptoBulk]
 | agg parts=>simp [Rows.uptoBulk]
 | iface t d=>simp [Rows.uptoBulk]
 | map entries=>simp [Rows.uptoBulk]
 | held h=>simp [Rows.uptoBulk]
theorem bulk_app {H:Type} (l r:List (DataW H)):Rows.uptoBulkAll (l++r)=Rows.uptoBulkAll l+Rows.uptoBulkAll r:=by
 induction l with
 | nil=>simp [Rows.uptoBulkAll]
 | cons x l ih=>simp only [List.cons_append,Rows.uptoBulkAll,ih];omega
theorem bulk_mem {H:Type} {d:DataW H} {l:List (DataW H)} (h:d∈l):Rows.uptoBulk d≤Rows.uptoBulkAll l:=by
 induction l with
 | nil=>cases h
 | cons x r ih=>
   simp only [Rows.uptoBulkAll]
   cases List.mem_cons.1 h with
   | inl e=>subst e;omega
   | inr e=>have:=ih e;omega
def sumN {α:Type} (μ:α→Nat):List α→Nat
 | []=>0
 | x::l=>μ x+sumN μ l
theorem sumN_app {α:Type} (μ:α→Nat):∀ (l r:List α),sumN μ (l++r)=sumN μ l+sumN μ r
 | [],r=>by simp [sumN]
 | x::l,r=>by
   rw [List.cons_append]
   simp only [sumN]
   rw [sumN_app μ l r]
   omega
theorem wf_u8 {n:Int} (h:(Lit.int .u8 n).wf=true):0≤n∧n<256:=by
 simp only [Lit.wf,decide_eq_true_eq,Bool.and_eq_true] at h
 have h1:IntKind.u8.min=0:=by decide
 have h2:IntKind.u8.max=255:=by decide
 omega
theorem wf_u64 {n:Int} (h:(Lit.int .u64 n).wf=true):0≤n∧n<18446744073709551616:=by
 simp only [Lit.wf,decide_eq_true_eq,Bool.and_eq_true] at h
 have h1:IntKind.u64.min=0:=by decide
 have h2:IntKind.u64.max=18446744073709551615:=by decide
 omega
section
variable {H:Type} {enc:TypeId×Value→H} {w:World}
theorem open_ls {P:Program} {α:Type} {held:Bool} {t e:TypeId} {fuel sz:Nat} {cs:List Value} {d:DataW H} {p:List MemPlace} (A:α→List Value→Prop) (μ:α→Nat)
  (ht:P.underlying t=some (.slice e)) (hc:P.cellsOf e=sz) (hsz:0<sz)
  (hf:DataW.trod enc P w 0 (fun _=>true) held fuel t cs=some (d,p))
  (hdec:∀ n cs d' p',Rows.uptoBulk d'<Rows.uptoBulk d→cs.length=sz→DataW.trod enc P w 0 (fun _=>true) held n e cs=some (d',p')→∃ x,A x cs∧μ x≤Rows.uptoBulk d'):
  ∃ (a:Option Addr) (n c:Nat) (xs:List Value) (L:List α),cs=[.slice a n c]∧n≤c∧c≤maxLen∧L.length=n∧Sy.SlAt (·<w.heap.size) w a n sz xs∧LsAt A L xs∧sumN μ L+1≤Rows.uptoBulk d:=by
 subst hc
 rcases Go.Deep.open_slice ht hf with ⟨hcs,hx⟩ | ⟨a,len,cap,m,n,D,Pl,hcs,-,hl,hm,hmm,hx,hi⟩
 · injection hx with hd hp
   subst hd
   exact ⟨none,0,0,[],[],hcs,Nat.le_refl _,by simp [maxLen],rfl,⟨by simp,.inl rfl⟩,rfl,by simp [sumN,Rows.uptoBulk]⟩
 · simp only [if_true] at hmm
   subst hmm
   injection hx with hd hp
   have hbd:Rows.uptoBulkAll ((List.range len).map D)+1≤Rows.uptoBulk d:=by
    rw [hd]
    simp only [Rows.uptoBulk]
    omega
   have key:∀ k,k≤len→∃ (xs:List Value) (L:List α),L.length=k∧xs.length=k*P.cellsOf e∧LsAt A L xs∧sumN μ L≤Rows.uptoBulkAll ((List.range k).map D)∧∀ j u,xs[j]?=some u→w.cell? (a.add j)=some u:=by
    intro k
    induction k with
    | zero=>intro _;exact ⟨[],[],rfl,by simp,rfl,by simp [sumN],by simp⟩
    | succ k ih=>
      intro hk
      obtain ⟨xs,L,h1,h2,h3,h4,h5⟩:=ih (by omega)
      obtain ⟨cs',hc1,hc2⟩:=hi k (by omega)
      obtain ⟨-,hcl,hat⟩:=World.cells?_some hc1
      have hlt:Rows.uptoBulk (D k)<Rows.uptoBulk d:=by
       have:=bulk_mem (l:=(List.range len).map D) (d:=D k) (List.mem_map.2 ⟨k,List.mem_range.2 (by omega),rfl⟩)
       omega
      obtain ⟨x,hx1,hx2⟩:=hdec _ _ _ _ hlt hcl hc2
      refine ⟨xs++cs',L++[x],by simp [h1],by rw [List.length_append,h2,hcl,Nat.add_mul];omega,LsAt.snoc h3 hx1,?_,?_⟩
      · rw [List.range_succ,List.map_append,bulk_app,sumN_app]
        simp only [List.map_cons,List.map_nil,Rows.uptoBulkAll,sumN]
        omega
      · intro j u hu
        rcases Nat.lt_or_ge j xs.length with hj | hj
        · rw [List.getElem?_append_left (by omega)] at hu
          exact h5 j u hu
        · rw [List.getElem?_append_right (by omega),h2] at hu
          have hj2:j - k*P.cellsOf e<P.cellsOf e:=by
           have:=(List.getElem?_eq_some_iff.1 hu).1
           omega
          have:=hat _ hj2
          rw [add_add',show k*P.cellsOf e+(j - k*P.cellsOf e)=j by omega] at this
          rw [this,hu]
   obtain ⟨xs,L,h1,h2,h3,h4,h5⟩:=key len (Nat.le_refl _)
   refine ⟨some a,len,_,xs,L,hcs,hl,hm,h1,⟨h2,?_⟩,h3,by omega⟩
   cases len with
   | zero=>exact .inl rfl
   | succ q=>
     have hpos:0<xs.length:=by rw [h2];exact Nat.mul_pos (Nat.succ_pos _) hsz
     have h0:=h5 0 _ (List.getElem?_eq_getElem hpos)
     have hspot:a.spot=none:=by
      have e0:a.add 0=a:=by simp [Addr.add]
      rw [e0] at h0
      unfold World.cell? at h0
      split at h0
      · split at h0
        · cases h0
        · rename_i hn
          cases hs:a.spot with
          | none=>rfl
          | some s=>rw [hs] at hn;simp at hn
      · cases h0
     have ha:a=⟨a.block,a.off,none⟩:=by rw [← hspot]
     refine .inr ⟨congrArg some ha,?_,fun j v hv=>?_⟩
     · have:=World.block_lt_of_cell? w _ h0
       rwa [blk_add] at this
     · have:=h5 j v hv
       rw [ha,Addr.add_mid] at this
       exact this
end
-- sizes: names' letters,and what stands
mutual
def exB:Ex→Nat
 | .mk _ _ _ name kids=>name.length+5+exBs kids
def exBs:List Ex→Nat
 | []=>0
 | e::l=>exB e+exBs l
end
mutual
def exR:Ex→Prop
 | .mk op ty bits _ kids=>(0≤op∧op<256)∧(0≤ty∧ty<256)∧(0≤bits∧bits<18446744073709551616)∧exRs kids
def exRs:List Ex→Prop
 | []=>True
 | e::l=>exR e∧exRs l
end
theorem exRs_mem:∀ {l:List Ex},exRs l↔∀ e∈l,exR e
 | []=>by simp [exRs]
 | e::l=>by simp [exRs,exRs_mem]
theorem exBs_sum:∀ (l:List Ex),exBs l=sumN exB l
 | []=>rfl
 | e::l=>by simp only [exBs,sumN];rw [exBs_sum l]
mutual
theorem wgt_exB:∀ (e:Ex),wgt e≤exB e
 | .mk _ _ _ _ k=>by simp only [wgt,exB];have:=wgts_exBs k;omega
theorem wgts_exBs:∀ (l:List Ex),wgts l≤exBs l
 | []=>Nat.le_refl _
 | e::l=>by simp only [wgts,exBs];have:=wgt_exB e;have:=wgts_exBs l;omega
end
mutual
def stB:St→Nat
 | .mk _ name e b l=>name.length+1+exB e+stBs b+stBs l
def stBs:List St→Nat
 | []=>0
 | s::l=>stB s+stBs l
end
mutual
def stR:St→Prop
 | .mk kind _ e b l=>(-9223372036854775808≤kind∧kind<9223372036854775808)∧exR e∧stRs b∧stRs l
def stRs:List St→Prop
 | []=>True
 | s::l=>stR s∧stRs l
end
theorem stRs_mem:∀ {l:List St},stRs l↔∀ e∈l,stR e
 | []=>by simp [stRs]
 | e::l=>by simp [stRs,stRs_mem]
mutual
theorem swt_stB:∀ (s:St),swt s≤stB s
 | .mk _ _ e b l=>by simp only [swt,stB];have:=wgt_exB e;have:=swts_stBs b;have:=swts_stBs l;omega
theorem swts_stBs:∀ (l:List St),swts l≤stBs l
 | []=>Nat.le_refl _
 | s::l=>by simp only [swts,stBs];have:=swt_stB s;have:=swts_stBs l;omega
end
def vrB (v:Vr):Nat:=v.name.length+1
def vrR (v:Vr):Prop:=(0≤v.ty∧v.ty<256)∧0≤v.bits∧v.bits<18446744073709551616
def txB (s:List UInt8):Nat:=s.length+1
def thB (t:Th):Nat:=t.name.length+1+sumN vrB t.locals+stBs t.body
def thR (t:Th):Prop:=(∀ v∈t.locals,vrR v)∧stRs t.body
def pgB (p:Pg):Nat:=sumN vrB p.shared+sumN txB p.mutexes+sumN thB p.threads
def pgR (p:Pg):Prop:=(∀ v∈p.shared,vrR v)∧∀ t∈p.threads,thR t
theorem len_sumN {α:Type} {μ:α→Nat} (h:∀ x,1≤μ x):∀ (l:List α),l.length≤sumN μ l
 | []=>Nat.le_refl _
 | x::l=>by simp only [sumN,List.length_cons];have:=h x;have:=len_sumN h l;omega
theorem sumN_mem {α:Type} {μ:α→Nat} {x:α}:∀ {l:List α},x∈l→μ x≤sumN μ l
 | y::l,h=>by
   simp only [sumN]
   rcases List.mem_cons.1 h with rfl | h
   · omega
   · have:=sumN_mem (μ:=μ) h;omega
section
variable {H:Type} {enc:TypeId×Value→H} {w:World} {held:Bool}
theorem list5 {α:Type} {cs:List α} (h:cs.length=5):∃ a b c d e,cs=[a,b,c,d,e]:=by
 match cs,h with
 | [a,b,c,d,e],_=>exact ⟨a,b,c,d,e,rfl⟩
theorem list4 {α:Type} {cs:List α} (h:cs.length=4):∃ a b c d,cs=[a,b,c,d]:=by
 match cs,h with
 | [a,b,c,d],_=>exact ⟨a,b,c,d,rfl⟩
theorem list2 {α:Type} {cs:List α} (h:cs.length=2):∃ a b,cs=[a,b]:=by
 match cs,h with
 | [a,b],_=>exact ⟨a,b,rfl⟩
set_option maxRecDepth 100000 in
theorem cell1:Tryz.prog.cellsOf 22=1∧Tryz.prog.cellsOf 23=1∧Tryz.prog.cellsOf 24=1∧Tryz.prog.cellsOf 9=1∧Tryz.prog.cellsOf 3=1∧Tryz.prog.cellsOf 27=1∧Tryz.prog.cellsOf 53=1∧Tryz.prog.cellsOf 52=1∧Tryz.prog.cellsOf 30=1∧Tryz.prog.cellsOf 56=1:=by
 refine ⟨?_,?_,?_,?_,?_,?_,?_,?_,?_,?_⟩ <;> kernel_rfl
theorem cell2:Tryz.prog.cellsOf 26=2∧Tryz.prog.cellsOf 29=5∧Tryz.prog.cellsOf 91=9∧Tryz.prog.cellsOf 108=3∧Tryz.prog.cellsOf 55=3∧Tryz.prog.cellsOf 58=3:=by
 refine ⟨?_,?_,?_,?_,?_,?_⟩ <;> kernel_rfl
theorem open_parts {P:Program} {t:TypeId} {fs:Array Field} {fuel:Nat} {cs:List Value} {d:DataW H} {p:List MemPlace} (ht:P.underlying t=some (.struct fs)) (h:DataW.trod enc P w 0 (fun _=>true) held fuel t cs=some (d,p)):
  ∃ (ds:List (DataW H)),Rows.uptoBulk d=Rows.uptoBulkAll ds+1∧ds.length=fs.size∧cs.length=P.cellsOf t∧∀ (i:Nat) (f:Field),fs[i]?=some f→∃ n di q,ds[i]?=some di∧DataW.trod enc P w 0 (fun _=>true) held n f.type ((cs.drop f.offset).take (P.cellsOf f.type))=some (di,q):=by
 obtain ⟨xs,n,-,hx,hl,hlen,hfs⟩:=DataW.trod_struct ht h
 injection hx with h1 h2
 refine ⟨xs.map (·.1),by rw [h1];simp [Rows.uptoBulk],by simp [hlen],hl,fun i f hf=>?_⟩
 have:=hfs i f hf
 have hi:i<xs.length:=by rw [hlen];exact (Array.getElem?_eq_some_iff.1 hf).1
 rw [List.getElem?_eq_getElem hi] at this
 exact ⟨n,xs[i].1,xs[i].2,by simp [List.getElem?_eq_getElem hi],this⟩
theorem LsAt.both {α:Type} {A:α→List Value→Prop} {R:α→Prop}:∀ {l:List α} {xs:List Value},LsAt (fun x c=>A x c∧R x) l xs→LsAt A l xs∧∀ x∈l,R x
 | [],xs,h=>⟨h,fun x hx=>by cases hx⟩
 | e::l,xs,⟨c,r,h1,h2,h3⟩=>by
   obtain ⟨h4,h5⟩:=LsAt.both h3
   exact ⟨⟨c,r,h1,h2.1,h4⟩,fun x hx=>by
    rcases List.mem_cons.1 hx with rfl | hx
    · exact h2.2
    · exact h5 x hx⟩
set_option maxRecDepth 100000 in
theorem val_open {n:Nat} {cs:List Value} {d:DataW H} {p:List MemPlace} (h:DataW.trod enc Tryz.prog w 0 (fun _=>true) held n 26 cs=some (d,p)):
  ∃ ty bits,cs=[.int .u8 ty,.int .u64 bits]∧(0≤ty∧ty<256)∧(0≤bits∧bits<18446744073709551616)∧Rows.uptoBulk d=3:=by
 obtain ⟨ds,hb,hl,hcl,hf⟩:=open_parts Tryz.underlying26 h
 obtain ⟨c0,c1,rfl⟩:=list2 (hcl.trans cell2.1)
 obtain ⟨n0,d0,q0,e0,h0⟩:=hf 0 _ rfl
 obtain ⟨n1,d1,q1,e1,h1⟩:=hf 1 _ rfl
 obtain ⟨x0,x1,rfl⟩:=list2 (hl.trans rfl)
 simp only [List.getElem?_cons_zero,List.getElem?_cons_succ,Option.some.injEq] at e0 e1
 subst e0 e1
 have h0:DataW.trod enc Tryz.prog w 0 (fun _=>true) held n0 23 [c0]=some (x0,q0):=by simpa [cell1.2.1] using h0
 have h1:DataW.trod enc Tryz.prog w 0 (fun _=>true) held n1 24 [c1]=some (x1,q1):=by simpa [cell1.2.2.1] using h1
 obtain ⟨ty,g1,g2,g3⟩:=DataW.trod_int Tryz.underlying23 h0
 obtain ⟨bits,k1,k2,k3⟩:=DataW.trod_int Tryz.underlying24 h1
 injection g1 with g1;injection k1 with k1;injection g2 with g2;injection k2 with k2
 subst g1 k1 g2 k2
 exact ⟨ty,bits,rfl,wf_u8 g3,wf_u64 k3,by rw [hb];simp [Rows.uptoBulkAll,Rows.uptoBulk]⟩
theorem str_open {n:Nat} {cs:List Value} {d:DataW H} {p:List MemPlace} (h:DataW.trod enc Tryz.prog w 0 (fun _=>true) held n 9 cs=some (d,p)):
  ∃ l:List UInt8,cs=[.string (str l)]∧Rows.uptoBulk d=l.length+1:=by
 obtain ⟨s,h1,h2,h3⟩:=DataW.trod_string Tryz.underlying9 h
 obtain ⟨l,rfl⟩:=exists_str s
 injection h2 with h2
 exact ⟨l,h1,by rw [h2];simp [Rows.uptoBulk,str_data]⟩
set_option maxRecDepth 100000 in
theorem ex_open:∀ (b:Nat) {n:Nat} {cs:List Value} {d:DataW H} {p:List MemPlace},Rows.uptoBulk d<b→DataW.trod enc Tryz.prog w 0 (fun _=>true) held n 29 cs=some (d,p)→
  ∃ e,ExAt (·<w.heap.size) w e cs∧exR e∧exB e≤Rows.uptoBulk d:=by
 intro b
 induction b with
 | zero=>intro n cs d p h;omega
 | succ b ih=>
   intro n cs d p hbd h
   obtain ⟨ds,hb,hl,hcl,hf⟩:=open_parts Tryz.underlying29 h
   obtain ⟨c0,c1,c2,c3,c4,rfl⟩:=list5 (hcl.trans cell2.2.1)
   obtain ⟨n0,d0,q0,e0,h0⟩:=hf 0 _ rfl
   obtain ⟨n1,d1,q1,e1,h1⟩:=hf 1 _ rfl
   obtain ⟨n2,d2,q2,e2,h2⟩:=hf 2 _ rfl
   obtain ⟨n3,d3,q3,e3,h3⟩:=hf 3 _ rfl
   obtain ⟨x0,x1,x2,x3,rfl⟩:=list4 (hl.trans rfl)
   simp only [List.getElem?_cons_zero,List.getElem?_cons_succ,Option.some.injEq] at e0 e1 e2 e3
   subst e0 e1 e2 e3
   have h0:DataW.trod enc Tryz.prog w 0 (fun _=>true) held n0 22 [c0]=some (x0,q0):=by simpa [cell1.1] using h0
   have h1:DataW.trod enc Tryz.prog w 0 (fun _=>true) held n1 26 [c1,c2]=some (x1,q1):=by simpa [cell2.1] using h1
   have h2:DataW.trod enc Tryz.prog w 0 (fun _=>true) held n2 9 [c3]=some (x2,q2):=by simpa [cell1.2.2.2.1] using h2
   have h3:DataW.trod enc Tryz.prog w 0 (fun _=>true) held n3 27 [c4]=some (x3,q3):=by simpa [cell1.2.2.2.2.2.1] using h3
   obtain ⟨op,g1,g2,g3⟩:=DataW.trod_int Tryz.underlying22 h0
   obtain ⟨ty,bits,k1,k2,k3,k4⟩:=val_open h1
   obtain ⟨name,m1,m2⟩:=str_open h2
   simp only [Rows.uptoBulkAll] at hb
   obtain ⟨a,n',c,xs,L,o1,o2,o3,o4,o5,o6,o7⟩:=open_ls (fun e c=>ExAt (·<w.heap.size) w e c∧exR e) exB Tryz.underlying27 cell2.2.1 (by omega) h3 (fun n cs d' p' hlt hl5 ht=>by
    obtain ⟨e,w1,w2,w3⟩:=ih (by omega) ht
    exact ⟨e,⟨w1,w2⟩,w3⟩)
   obtain ⟨o8,o9⟩:=o6.both
   injection g2 with g2
   simp only [List.cons.injEq,and_true] at g1 k1 m1 o1
   obtain ⟨k5,k6⟩:=k1
   subst g1 g2 k5 k6 m1 o1 o4
   refine ⟨.mk op ty bits name L,?_,?_,?_⟩
   · simp only [ExAt]
     exact ⟨a,c,xs,rfl,o5,ExsAt_ls.2 o8⟩
   · simp only [exR]
     exact ⟨wf_u8 g3,k2,k3,exRs_mem.2 o9⟩
   · simp only [exB]
     rw [exBs_sum,hb,m2,k4]
     have:=bulk_pos x3
     simp only [Rows.uptoBulk]
     omega
end
end Go.Proofs.YtinjiigdijbjeaaGreatDoor
end
namespace Go.Proofs.YtinjiigdijbjeaaGreatDoor
open Go.RowKit Go.As
section
def evTab:List Nat:=[1,10,100,1000,10000,100000,1000000,10000000,100000000,1000000000,10000000000,100000000000,1000000000000,10000000000000,100000000000000,1000000000000000,10000000000000000,100000000000000000,1000000000000000000,10000000000000000000]
theorem tab_at {w:World} (h:Tab w):Sy.TabAt 1 evTab w:=by
 unfold Tab Lib.TabIs World.var? at h
 have hg:Tryz.prog.globalNamed "internal/strconv.uint64pow10" = some 1:=by kernel_rfl
 simp only [hg,Option.bind_some] at h
 have e:(Lib.pow10Tab.map fun z=>Value.int .u64 z).toArray=(evTab.map fun (n:Nat)=>Value.int .u64 (n:Int)).toArray:=by kernel_rfl
 rw [e] at h
 split at h
 · rename_i cs ty fz hh
   injection h with h
   subst h
   exact ⟨ty,fz,hh⟩
 · cases h
def syIT:Sy.Aux:=⟨evId,fun _ _=>none,Tab⟩
theorem sy_fineT:Sy.Fine Tryz.prog syIT:=Sy.fine_of evId_ok (fun f args av h=>by cases h) (fun w w' h hb=>h.below hb) (by kernel_rfl)
theorem sy_glob:1<Tryz.prog.globals.size:=of_decide_eq_true (by kernel_rfl)
end
section
theorem box_sl {F:Nat→Prop} {w:World} {k ty n:Nat} {vals:List Value} (h:w.heap[k]?=some (.cells vals.toArray ty (0,0))) (hF:F k) (hn:vals.length=n):Sy.SlAt F w (some ⟨k,0,none⟩) 1 n vals:=
 ⟨by omega,.inr ⟨rfl,hF,fun j v hv=>by
  simp only [World.cell?,Sy.gB,Sy.oB,Nat.zero_add]
  rw [h]
  simpa using hv⟩⟩
def seqR:Code→Code
 | .seq _ b=>b
 | c=>c
end
end Go.Proofs.YtinjiigdijbjeaaGreatDoor
section
namespace Go.Proofs.YtinjiigdijbjeaaGreatDoor
open Go Go.RowKit Go.As
def keyIs (s:List UInt8) (m:MapEntry):Bool:=match m.key with
 | .string y=>decide (y.data.toList=s)
 | _=>false
def findE (s:List UInt8):List MapEntry→Nat→Option (Nat×Value)
 | [],_=>none
 | m::l,i=>if keyIs s m then some (i,m.val) else findE s l (i+1)
def getE (s:List UInt8):List MapEntry→Option Value
 | []=>none
 | m::l=>if keyIs s m then some m.val else getE s l
def strKeys (l:List MapEntry):Prop:=∀ m∈l,∃ y:List UInt8,m.key = .string (str y)
theorem keyIs_str {s y:List UInt8} {m:MapEntry} (h:m.key = .string (str y)):keyIs s m=decide (y=s):=by
 unfold keyIs
 rw [h]
 rfl
theorem str_beq (a b:List UInt8):(str a==str b)=decide (a=b):=by
 rw [Sy.bytes_beq]
 rfl
theorem findNow_str (s:List UInt8):∀ (l:List MapEntry) (i:Nat),strKeys l→Instr.findNow .string (.string (str s)) l i=some (findE s l i)
 | [],i,h=>rfl
 | m::l,i,h=>by
   obtain ⟨y,hy⟩:=h m (by simp)
   have ih:=findNow_str s l (i+1) (fun m' hm=>h m' (by simp [hm]))
   have hb:(str s==str y)=decide (s=y):=str_beq s y
   unfold findE
   rw [keyIs_str hy]
   by_cases e:s=y
   · subst e
     have hb:(str s==str s)=true:=by rw [str_beq];simp
     simp only [Instr.findNow,hy,Instr.sameNow,hb]
     simp
   · have hb:(str s==str y)=false:=by rw [str_beq];simp [e]
     simp only [Instr.findNow,hy,Instr.sameNow,hb]
     rw [if_neg (by simp only [decide_eq_true_eq];exact fun h=>e h.symm)]
     exact ih
theorem findE_get (s:List UInt8):∀ (l:List MapEntry) (i:Nat),(findE s l i).map (·.2)=getE s l
 | [],i=>rfl
 | m::l,i=>by
   unfold findE getE
   split
   · rfl
   · exact findE_get s l (i+1)
def MpAt (F:Nat→Prop) (w:World) (k:Nat) (f:List UInt8→Option Value):Prop:=F k∧∃ l clk,w.heap[k]?=some (.map l clk)∧strKeys l.toList∧∀ s,getE s l.toList=f s
theorem MpAt.keep {F F':Nat→Prop} {w w':World} {k:Nat} {f:List UInt8→Option Value} (h:MpAt F w k f) (hk:Sy.Keep F w w') (hF:∀ k,F k→F' k):MpAt F' w' k f:=by
 obtain ⟨h1,l,clk,h2,h3,h4⟩:=h
 exact ⟨hF k h1,l,clk,by rw [hk.block k h1];exact h2,h3,h4⟩
theorem MpAt.new {F:Nat→Prop} {w:World} {k:Nat} (hF:F k) (h:w.heap[k]?=some (.map #[] 0)):MpAt F w k fun _=>none:=
 ⟨hF,#[],0,h,fun m hm=>by simp at hm,fun s=>rfl⟩
theorem map_lookup {P:Program} {t kt et:TypeId} {z:Value} (hu:P.underlying t=some (.map kt et)) (hk:P.underlying kt=some .string) (hz:Sy.zeroB P et=some z) {F:Nat→Prop} {w0:World} {k:Nat} {f:List UInt8→Option Value} (h:MpAt F w0 k f) (s:List UInt8) {w:World} (hkeep:Sy.Keep F w0 w):
  (Instr.lookup t (.map (some k)) (.string (str s)) false).run P w = .ok ((f s).getD z) w:=by
 obtain ⟨hF,l,clk,h1,h2,h3⟩:=h
 have h1:w.heap[k]?=some (.map l clk):=by rw [hkeep.block k hF];exact h1
 have hg:(getObj k).run P w = .ok (.map l clk) w:=by simp only [getObj,Sem.run,h1]
 have hf:(Instr.findKey kt (.string (str s)) l.toList).run P w = .ok (findE s l.toList 0) w:=Sy.findKey_now hk (findNow_str s l.toList 0 h2) w
 have hv:=findE_get s l.toList 0
 rw [h3] at hv
 have hlk:(Instr.lookup t (.map (some k)) (.string (str s)) false).run P w=(do
   Instr.checkKey l.isEmpty (9999+1) kt (.string (str s))
   let (v,k) ← match ← Instr.findKey kt (.string (str s)) l.toList with
    | some (_,v)=>pure (v,true)
    | none=>pure (← zeroValue et,false)
   pure v:Sem Value).run P w:=by
  unfold Instr.lookup
  rw [Sem.run_bind,run_underlying hu w,Result.andThen_ok]
  simp only [Sem.run_bind,hg,Result.andThen_ok,Sem.run_pure]
  rfl
 rw [hlk]
 simp only [Sem.run_bind,Sy.checkKey_str hk,Result.andThen_ok,hf]
 cases hx:findE s l.toList 0 with
 | none=>
   rw [hx] at hv
   simp only [Option.map_none] at hv
   rw [← hv]
   simp only [Sem.run_bind,Sy.zeroB_ok hz,Result.andThen_ok,Sem.run_pure]
   rfl
 | some p=>
   obtain ⟨j,v⟩:=p
   rw [hx] at hv
   simp only [Option.map_some] at hv
   rw [← hv]
   simp only [Sem.run_pure,Result.andThen_ok]
   rfl
end Go.Proofs.YtinjiigdijbjeaaGreatDoor
end
namespace Go.Proofs.YtinjiigdijbjeaaGreatDoor
open Go.RowKit Go.As
section
abbrev Thg:=List UInt8→Option (Int×Int)
def thOf (th:Thg) (s:List UInt8):Int×Int:=(th s).getD (0,0)
def ThgAt (F:Nat→Prop) (w:World) (k:Nat) (th:Thg):Prop:=MpAt F w k fun s=>(th s).map fun p => .agg #[.int .i64 p.1,.int .u8 p.2]
theorem ThgAt.keep {F F':Nat→Prop} {w w':World} {k:Nat} {th:Thg} (h:ThgAt F w k th) (hk:Sy.Keep F w w') (hF:∀ k,F k→F' k):ThgAt F' w' k th:=MpAt.keep h hk hF
theorem thg_look {F:Nat→Prop} {w0:World} {k:Nat} {th:Thg} (h:ThgAt F w0 k th) (s:List UInt8) {w:World} (hk:Sy.Keep F w0 w):
  (Instr.lookup 96 (.map (some k)) (.string (str s)) false).run Tryz.prog w = .ok (.agg #[.int .i64 (thOf th s).1,.int .u8 (thOf th s).2]) w:=by
 rw [map_lookup (kt:=9) (et:=145) (z := .agg #[.int .i64 0,.int .u8 0]) (by kernel_rfl) (by kernel_rfl) (by kernel_rfl) h s hk]
 unfold thOf
 cases th s <;> rfl
end
section
set_option maxRecDepth 100000
def isVar (k:Int):Bool:=Sy.intEq k 1 || Sy.intEq k 2
mutual
def unk (th:Thg):Ex→Bool
 | .mk op _ _ name kids=>(decide (op=2)&&!isVar (thOf th name).1) || unks th kids
def unks (th:Thg):List Ex→Bool
 | []=>false
 | e::l=>unk th e || unks th l
end
theorem unks_app (th:Thg):∀ (l r:List Ex),unks th (l++r)=(unks th l || unks th r)
 | [],r=>by simp [unks]
 | e::l,r=>by
   simp only [List.cons_append,unks]
   rw [unks_app th l r,Bool.or_assoc]
open Go.Sy
theorem cvar_any (k t:Int) (w:World):CB 75 #[.agg #[nI k,n8 t]] w (.bool (isVar k)):=by
 refine eN [.agg #[nI k,n8 t]] Tryz.func75 (fun γ0 hγ0=>?_)
 refine rs [6] 60 0 ?_
 by_cases h1:k=1
 ·
  refine gT 5 k 1 h1 ?_
  refine rs [] 60 3 ?_
  refine gR (.bool true) (fun W hk=>⟨by unfold isVar;rw [eq_t h1];rfl,hk.below⟩)
 refine gF 5 k 1 h1 ?_
 refine rs [] 60 3 ?_
 refine gR (.bool (intEq k 2)) (fun W hk=>⟨by unfold isVar;rw [eq_f h1];rfl,hk.below⟩)
theorem cunknown_any (km:Nat) (th:Thg):∀ (N:Nat),∀ (e:Ex) (cs:List Value) (w:World),wgt e≤N→wgt e≤1099511627776→ThgAt (·<w.heap.size) w km th→ExAt (·<w.heap.size) w e cs→
  CB 38 #[.map (some km),.agg cs.toArray] w (.bool (unk th e)):=by
 intro N
 induction N with
 | zero=>intro e cs w h;have:=wgt_pos e;omega
 | succ N ihN=>
   intro e cs w hN hbd hm hat
   obtain ⟨op,ty,bits,name,kids⟩:=e
   simp only [ExAt] at hat
   obtain ⟨a,cap,xs,rfl,hsl,hks⟩:=hat
   simp only [wgt] at hN hbd
   obtain ⟨n,hn⟩:∃ n,n=kids.length:=⟨_,rfl⟩
   have hnl:=wgts_len kids
   rw [← hn] at hsl hnl ⊢
   refine eN [.map (some km),xV op ty bits name a n cap] Tryz.func38 (fun γ0 hγ0=>?_)
   refine rs [10] 60 0 ?_
   by_cases c2:op=2
   case' neg=>
    refine gF 9 op 2 c2 ?_
    refine rs [] 60 1 ?_
    have hz:(decide (op=2)&&!isVar (thOf th name).1)=false:=by simp [c2]
   case' pos=>
    refine gT 9 op 2 c2 ?_
    refine rs [14] 60 0 ?_
    refine gV (.agg #[nI (thOf th name).1,n8 (thOf th name).2]) (S:=Instr.lookup 96 (.map (some km)) (nT name) false) (fun W hk=>thg_look hm name hk) ?_
    refine rs [15] 60 0 ?_
    rcases Bool.eq_false_or_eq_true (isVar (thOf th name).1) with hv | hv
    rotate_left
    ·
     refine gX [.agg #[nI (thOf th name).1,n8 (thOf th name).2]] (.bool false) (fun W hk=>by rw [← hv];exact cvar_any _ _ W) ?_
     refine rs [] 60 3 ?_
     refine gR (.bool true) (fun W hk=>⟨by simp [unk,c2,hv],hk.below⟩)
    refine gX [.agg #[nI (thOf th name).1,n8 (thOf th name).2]] (.bool true) (fun W hk=>by rw [← hv];exact cvar_any _ _ W) ?_
    refine rs [] 60 1 ?_
    have hz:(decide (op=2)&&!isVar (thOf th name).1)=false:=by simp [hv]
   all_goals
    refine good_toLp ?_
    refine good_loopI (fun i:List Ex×List Ex=>i.2.length) (fun i=>kids=i.1++i.2∧unks th i.1=false) (fun i=>⟨mkT [(0,.v (.map (some km))),(3,.ptr gz 0),(4,vB false),(19,vL a n cap),(20,vI (n:Int)),(21,vI (i.1.length:Int))],mkH [(gz,bK 29 5 (xA op ty bits name a n cap))],gz+1,[]⟩)
     ([],kids) ⟨rfl,rfl⟩ (by kernel_rfl)
     (fun h=>gU _ [(0,.v (.map (some km))),(3,.ptr gz 0),(4,vB false),(19,vL a n cap),(20,vI (n:Int)),(21,vI (([]:List Ex).length:Int))] [(gz,bK 29 5 (xA op ty bits name a n cap))] (gz+1) (gA hγ0) h) ?_
    rintro ⟨l1,l2⟩ ⟨hI,hu⟩ ih
    have hI:kids=l1++l2:=hI
    have hu:unks th l1=false:=hu
    have hn2:n=l1.length+l2.length:=by rw [hn,hI,List.length_append]
    have hw1:wgts kids=wgts l1+wgts l2:=by rw [hI,wgts_app]
    refine rk ?_
    cases l2 with
    | nil=>
      have hn3:n=l1.length:=by rw [hn2];simp
      have hl1:l1=kids:=by rw [hI];simp
      refine ky (l1.length:Int) (n:Int) (by omega) ?_
      refine rs [] 60 2 ?_
      refine gR (.bool false) (fun W hk=>⟨by rw [unk,hz,← hl1,hu];rfl,hk.below⟩)
    | cons e l3=>
      have hin:l1.length<n:=by rw [hn2,List.length_cons];omega
      have hks2:=hks
      rw [hI] at hks2
      obtain ⟨c,hc1,hcell⟩:=hks2.at_
      have hcl:=hc1.len
      simp only [wgts] at hw1
      have hun:unks th kids=(unk th e || unks th l3):=by rw [hI,unks_app,hu];rfl
      refine kx (l1.length:Int) (n:Int) (by omega) ?_
      refine rk ?_
      refine gI 27 29 cap l1.length hsl hin ?_
      refine rk ?_
      have hld:=fun W hk=>load_slA (P:=Tryz.prog) (ty:=29) (m:=5) (cs:=c) hsl (by kernel_rfl) (by kernel_rfl) l1.length 0 hcl hcell (W:=W) hk
      have hcall:=fun W (hk:Keep (·<w.heap.size) w W)=>ihN e c W (by omega) (by omega) (hm.keep hk (kU hk)) (hc1.keep hk (kU hk))
      obtain ⟨op2,ty2,bits2,name2,kids2⟩:=e
      simp only [ExAt] at hc1
      obtain ⟨a2,cap2,xs2,rfl,_⟩:=hc1
      refine gV (xV op2 ty2 bits2 name2 a2 kids2.length cap2) (S:=Instr.loadAt 29 (.pointer (some ⟨gB a,oB a+l1.length*5+0,none⟩))) (fun W hk=>hld W hk) ?_
      refine rk ?_
      rcases Bool.eq_false_or_eq_true (unk th (Ex.mk op2 ty2 bits2 name2 kids2)) with hx | hx
      ·
       refine gX [.map (some km),xV op2 ty2 bits2 name2 a2 kids2.length cap2] (.bool true) (fun W hk=>by rw [← hx];exact hcall W hk) ?_
       refine rs [] 60 3 ?_
       refine gR (.bool true) (fun W hk=>⟨by rw [unk,hun,hx];simp,hk.below⟩)
      refine gX [.map (some km),xV op2 ty2 bits2 name2 a2 kids2.length cap2] (.bool false) (fun W hk=>by rw [← hx];exact hcall W hk) ?_
      refine rs [] 60 1 ?_
      refine gJ 21 l1 (Ex.mk op2 ty2 bits2 name2 kids2) (by omega) ?_
      exact gU _ [(0,.v (.map (some km))),(3,.ptr gz 0),(4,vB false),(19,vL a n cap),(20,vI (n:Int)),(21,vI ((l1++[(Ex.mk op2 ty2 bits2 name2 kids2)]).length:Int))] [(gz,bK 29 5 (xA op ty bits name a n cap))] (gz+1) (gA hγ0) (ih (l1++[(Ex.mk op2 ty2 bits2 name2 kids2)],l3) ⟨by show kids=(l1++[_])++l3;rw [hI];simp,by show unks th (l1++[_])=false;rw [unks_app,hu];simp [unks,hx]⟩ lS1)
end
section
set_option maxRecDepth 100000
def cw (b:Bool) (t:Int):Int:=if b=true then t else 0
def numT (a:Int):Bool:=Sy.intEq a 1 || Sy.intEq a 3
def resT (op a b:Int):Int:=
 if op=3∨op=4 then cw (Sy.intEq a 2&&Sy.intEq b 2) 2 else if op=5∨op=6 then cw (Sy.intEq a b) 2 else if 7≤op∧op≤10 then cw (Sy.intEq a b&&numT a) 2
 else if 11≤op∧op≤14 then cw (Sy.intEq a b&&numT a) a else if op=15 then cw (Sy.intEq a 1&&Sy.intEq b 1) 1 else if op=16 then cw (numT a) a else if op=17 then cw (Sy.intEq a 2) 2 else if op=18 then cw (Sy.intEq a 3) 1 else if op=19 then cw (Sy.intEq a 1) 3 else 0
open Go.Sy
theorem cwhen_any (b:Bool) (t:Int) (w:World):CB 129 #[.bool b,n8 t] w (n8 (cw b t)):=by
 refine eN [.bool b,n8 t] Tryz.func129 (fun γ0 hγ0=>?_)
 cases b
 all_goals
  refine rs [] 60 3 ?_
 · exact gR (n8 0) (fun W hk=>⟨rfl,hk.below⟩)
 · exact gR (n8 t) (fun W hk=>⟨rfl,hk.below⟩)
theorem cnumeric_any (a:Int) (w:World):CB 130 #[n8 a] w (.bool (numT a)):=by
 refine eN [n8 a] Tryz.func130 (fun γ0 hγ0=>?_)
 refine rs [5] 60 0 ?_
 by_cases h1:a=1
 ·
  refine gT 4 a 1 h1 ?_
  refine rs [] 60 3 ?_
  refine gR (.bool true) (fun W hk=>⟨by unfold numT;rw [eq_t h1];rfl,hk.below⟩)
 refine gF 4 a 1 h1 ?_
 refine rs [] 60 3 ?_
 refine gR (.bool (intEq a 3)) (fun W hk=>⟨by unfold numT;rw [eq_f h1];rfl,hk.below⟩)
theorem cresult_or (op a b:Int) (w:World) (h:op=3∨op=4):CB 77 #[n8 op,n8 a,n8 b] w (n8 (resT op a b)):=by
 have hr:resT op a b=cw (Sy.intEq a 2&&Sy.intEq b 2) 2:=by
  rcases h with rfl | rfl <;> simp [resT]
 rw [hr]
 clear hr
 rcases h with rfl | rfl
 all_goals
  refine eN [n8 _,n8 a,n8 b] Tryz.func77 (fun γ0 hγ0=>?_)
  refine rs [13] 250 30 ?_
  by_cases ha:a=2
  ·
   refine gT 12 a 2 ha ?_
   refine rs [] 60 3 ?_
   refine gX [.bool (intEq b 2),n8 2] (n8 (cw (intEq b 2) 2)) (fun W hk=>cwhen_any _ _ W) ?_
   refine rs [] 60 3 ?_
   refine gR (n8 (cw (intEq b 2) 2)) (fun W hk=>⟨by rw [eq_t ha];rfl,hk.below⟩)
  refine gF 12 a 2 ha ?_
  refine rs [] 60 3 ?_
  refine gX [.bool (false),n8 2] (n8 (cw (false) 2)) (fun W hk=>cwhen_any _ _ W) ?_
  refine rs [] 60 3 ?_
  refine gR (n8 (cw (false) 2)) (fun W hk=>⟨by rw [eq_f ha];rfl,hk.below⟩)
theorem cresult_eq (op a b:Int) (w:World) (h:op=5∨op=6):CB 77 #[n8 op,n8 a,n8 b] w (n8 (resT op a b)):=by
 have hr:resT op a b=cw (Sy.intEq a b) 2:=by
  rcases h with rfl | rfl <;> simp [resT]
 rw [hr]
 clear hr
 rcases h with rfl | rfl
 all_goals
  refine eN [n8 _,n8 a,n8 b] Tryz.func77 (fun γ0 hγ0=>?_)
  refine rs [] 250 30 ?_
  refine gX [.bool (intEq a b),n8 2] (n8 (cw (intEq a b) 2)) (fun W hk=>cwhen_any _ _ W) ?_
  refine rs [] 60 3 ?_
  refine gR (n8 (cw (intEq a b) 2)) (fun W hk=>⟨rfl,hk.below⟩)
theorem cresult_lt (op a b:Int) (w:World) (h:op=7∨op=8∨op=9∨op=10):CB 77 #[n8 op,n8 a,n8 b] w (n8 (resT op a b)):=by
 have hr:resT op a b=cw (Sy.intEq a b&&numT a) 2:=by
  rcases h with rfl | rfl | rfl | rfl <;> simp [resT]
 rw [hr]
 clear hr
 rcases h with rfl | rfl | rfl | rfl
 all_goals
  refine eN [n8 _,n8 a,n8 b] Tryz.func77 (fun γ0 hγ0=>?_)
  refine rs [33] 250 30 ?_
  by_cases ha:a=b
  ·
   refine gT 32 a b ha ?_
   refine rs [] 60 3 ?_
   refine gX [n8 a] (.bool (numT a)) (fun W hk=>cnumeric_any a W) ?_
   refine rs [] 60 3 ?_
   refine gX [.bool (numT a),n8 2] (n8 (cw (numT a) 2)) (fun W hk=>cwhen_any _ _ W) ?_
   refine rs [] 60 3 ?_
   refine gR (n8 (cw (numT a) 2)) (fun W hk=>⟨by rw [eq_t ha];rfl,hk.below⟩)
  refine gF 32 a b ha ?_
  refine rs [] 60 3 ?_
  refine gX [.bool (false),n8 2] (n8 (cw (false) 2)) (fun W hk=>cwhen_any _ _ W) ?_
  refine rs [] 60 3 ?_
  refine gR (n8 (cw (false) 2)) (fun W hk=>⟨by rw [eq_f ha];rfl,hk.below⟩)
theorem cresult_add (op a b:Int) (w:World) (h:op=11∨op=12∨op=13∨op=14):CB 77 #[n8 op,n8 a,n8 b] w (n8 (resT op a b)):=by
 have hr:resT op a b=cw (Sy.intEq a b&&numT a) a:=by
  rcases h with rfl | rfl | rfl | rfl <;> simp [resT]
 rw [hr]
 clear hr
 rcases h with rfl | rfl | rfl | rfl
 all_goals
  refine eN [n8 _,n8 a,n8 b] Tryz.func77 (fun γ0 hγ0=>?_)
  refine rs [46] 250 30 ?_
  by_cases ha:a=b
  ·
   refine gT 45 a b ha ?_
   refine rs [] 60 3 ?_
   refine gX [n8 a] (.bool (numT a)) (fun W hk=>cnumeric_any a W) ?_
   refine rs [] 60 3 ?_
   refine gX [.bool (numT a),n8 a] (n8 (cw (numT a) a)) (fun W hk=>cwhen_any _ _ W) ?_
   refine rs [] 60 3 ?_
   refine gR (n8 (cw (numT a) a)) (fun W hk=>⟨by rw [eq_t ha];rfl,hk.below⟩)
  refine gF 45 a b ha ?_
  refine rs [] 60 3 ?_
  refine gX [.bool (false),n8 a] (n8 (cw (false) a)) (fun W hk=>cwhen_any _ _ W) ?_
  refine rs [] 60 3 ?_
  refine gR (n8 (cw (false) a)) (fun W hk=>⟨by rw [eq_f ha];rfl,hk.below⟩)
theorem cresult_mod (op a b:Int) (w:World) (h:op=15):CB 77 #[n8 op,n8 a,n8 b] w (n8 (resT op a b)):=by
 have hr:resT op a b=cw (Sy.intEq a 1&&Sy.intEq b 1) 1:=by
  rcases h with rfl <;> simp [resT]
 rw [hr]
 clear hr
 rcases h with rfl
 refine eN [n8 _,n8 a,n8 b] Tryz.func77 (fun γ0 hγ0=>?_)
 refine rs [56] 250 30 ?_
 by_cases ha:a=1
 ·
  refine gT 55 a 1 ha ?_
  refine rs [] 60 3 ?_
  refine gX [.bool (intEq b 1),n8 1] (n8 (cw (intEq b 1) 1)) (fun W hk=>cwhen_any _ _ W) ?_
  refine rs [] 60 3 ?_
  refine gR (n8 (cw (intEq b 1) 1)) (fun W hk=>⟨by rw [eq_t ha];rfl,hk.below⟩)
 refine gF 55 a 1 ha ?_
 refine rs [] 60 3 ?_
 refine gX [.bool (false),n8 1] (n8 (cw (false) 1)) (fun W hk=>cwhen_any _ _ W) ?_
 refine rs [] 60 3 ?_
 refine gR (n8 (cw (false) 1)) (fun W hk=>⟨by rw [eq_f ha];rfl,hk.below⟩)
theorem cresult_neg (op a b:Int) (w:World) (h:op=16):CB 77 #[n8 op,n8 a,n8 b] w (n8 (resT op a b)):=by
 have hr:resT op a b=cw (numT a) a:=by
  rcases h with rfl <;> simp [resT]
 rw [hr]
 clear hr
 rcases h with rfl
 refine eN [n8 _,n8 a,n8 b] Tryz.func77 (fun γ0 hγ0=>?_)
 refine rs [] 250 30 ?_
 refine gX [n8 a] (.bool (numT a)) (fun W hk=>cnumeric_any a W) ?_
 refine rs [] 60 3 ?_
 refine gX [.bool (numT a),n8 a] (n8 (cw (numT a) a)) (fun W hk=>cwhen_any _ _ W) ?_
 refine rs [] 60 3 ?_
 refine gR (n8 (cw (numT a) a)) (fun W hk=>⟨rfl,hk.below⟩)
theorem cresult_not (op a b:Int) (w:World) (h:op=17):CB 77 #[n8 op,n8 a,n8 b] w (n8 (resT op a b)):=by
 have hr:resT op a b=cw (Sy.intEq a 2) 2:=by
  rcases h with rfl <;> simp [resT]
 rw [hr]
 clear hr
 rcases h with rfl
 refine eN [n8 _,n8 a,n8 b] Tryz.func77 (fun γ0 hγ0=>?_)
 refine rs [] 250 30 ?_
 refine gX [.bool (intEq a 2),n8 2] (n8 (cw (intEq a 2) 2)) (fun W hk=>cwhen_any _ _ W) ?_
 refine rs [] 60 3 ?_
 refine gR (n8 (cw (intEq a 2) 2)) (fun W hk=>⟨rfl,hk.below⟩)
theorem cresult_toint (op a b:Int) (w:World) (h:op=18):CB 77 #[n8 op,n8 a,n8 b] w (n8 (resT op a b)):=by
 have hr:resT op a b=cw (Sy.intEq a 3) 1:=by
  rcases h with rfl <;> simp [resT]
 rw [hr]
 clear hr
 rcases h with rfl
 refine eN [n8 _,n8 a,n8 b] Tryz.func77 (fun γ0 hγ0=>?_)
 refine rs [] 250 30 ?_
 refine gX [.bool (intEq a 3),n8 1] (n8 (cw (intEq a 3) 1)) (fun W hk=>cwhen_any _ _ W) ?_
 refine rs [] 60 3 ?_
 refine gR (n8 (cw (intEq a 3) 1)) (fun W hk=>⟨rfl,hk.below⟩)
theorem cresult_toreal (op a b:Int) (w:World) (h:op=19):CB 77 #[n8 op,n8 a,n8 b] w (n8 (resT op a b)):=by
 have hr:resT op a b=cw (Sy.intEq a 1) 3:=by
  rcases h with rfl <;> simp [resT]
 rw [hr]
 clear hr
 rcases h with rfl
 refine eN [n8 _,n8 a,n8 b] Tryz.func77 (fun γ0 hγ0=>?_)
 refine rs [] 250 30 ?_
 refine gX [.bool (intEq a 1),n8 3] (n8 (cw (intEq a 1) 3)) (fun W hk=>cwhen_any _ _ W) ?_
 refine rs [] 60 3 ?_
 refine gR (n8 (cw (intEq a 1) 3)) (fun W hk=>⟨rfl,hk.below⟩)
theorem cresult_any (op a b:Int) (w:World) (h:3≤op∧op≤19):CB 77 #[.int .u8 op,.int .u8 a,.int .u8 b] w (.int .u8 (resT op a b)):=by
 have h':(op=3∨op=4)∨(op=5∨op=6)∨(op=7∨op=8∨op=9∨op=10)∨(op=11∨op=12∨op=13∨op=14)∨op=15∨op=16∨op=17∨op=18∨op=19:=by omega
 rcases h' with h | h | h | h | h | h | h | h | h
 · exact cresult_or op a b w h
 · exact cresult_eq op a b w h
 · exact cresult_lt op a b w h
 · exact cresult_add op a b w h
 · exact cresult_mod op a b w h
 · exact cresult_neg op a b w h
 · exact cresult_not op a b w h
 · exact cresult_toint op a b w h
 · exact cresult_toreal op a b w h
end
section
noncomputable def realP (b:Nat):Option (List UInt8):=open Classical in if h:∃ t,PSpec (toN b) t 0 then some h.choose else none
theorem realP_ok {b:Nat} {t:List UInt8} (h:PSpec (toN b) t 0):realP b=some t:=by
 unfold realP
 have hx:∃ t,PSpec (toN b) t 0:=⟨t,h⟩
 rw [dif_pos hx]
 exact congrArg some (hx.choose_spec.uniq h).1
theorem realP_no {b:Nat} {t:List UInt8} {z:Int} (h:PSpec (toN b) t z) (hz:z≠0):realP b=none:=by
 unfold realP
 rw [dif_neg]
 rintro ⟨s,hs⟩
 exact hz (hs.uniq h).2.symm
def nanBits:Int:=9221120237041090560
def infBits:Int:=9218868437227405312
def signBits:Int:=9223372036854775808
noncomputable def litT (ty bits:Int):Option (List UInt8):=
 if ty=1 then (if bits<signBits then some (Lib.decDigits bits.toNat) else none)
 else if ty=2 then (if bits=1 then some [116,114,117,101] else if bits=0 then some [102,97,108,115,101] else none)
 else if ty=3 then (if bits=nanBits then some [110,97,110] else if bits=infBits then some [105,110,102] else if bits<signBits then realP bits.toNat else none)
 else none
noncomputable def valT (ty bits:Int):Option (List UInt8):=
 if ty=1 then (if bits<signBits then some (Lib.decDigits bits.toNat) else if bits=signBits then none else some (45::Lib.decDigits (18446744073709551616 - bits).toNat))
 else if ty=3 then (if bits<signBits then litT 3 bits else if bits - signBits=nanBits then none else (litT 3 (bits - signBits)).map (45::·))
 else litT ty bits
def signT (op:Int):List UInt8:=
 if op=3 then [124,124] else if op=4 then [38,38] else if op=5 then [61,61] else if op=6 then [33,61] else if op=7 then [60] else if op=8 then [60,61] else if op=9 then [62] else if op=10 then [62,61]
 else if op=11 then [43] else if op=12 then [45] else if op=13 then [42] else if op=14 then [47] else if op=15 then [37] else []
mutual
noncomputable def exT:Ex→Option (List UInt8)
 | .mk op ty bits name kids=>
   if (op≠1∧¬ (ty=0∧bits=0))∨(op≠2∧name≠[]) then none
   else match exTs kids with
    | none=>none
    | some ks=>
      if op=1 then (match ks with | []=>litT ty bits | _=>none)
      else if op=2 then (match ks with | []=>if nameB name=true then some name else none | _=>none)
      else if 3≤op∧op≤15 then (match ks with | [a,b]=>some (40::(a++(32::(signT op++(32::(b++[41])))))) | _=>none)
      else if op=16 then (match ks with | [a]=>some (45::a) | _=>none)
      else if op=17 then (match ks with | [a]=>some (33::a) | _=>none)
      else if op=18 then (match ks with | [a]=>some ([105,110,116,40]++(a++[41])) | _=>none)
      else if op=19 then (match ks with | [a]=>some ([114,101,97,108,40]++(a++[41])) | _=>none)
      else none
noncomputable def exTs:List Ex→Option (List (List UInt8))
 | []=>some []
 | e::l=>match exT e with
   | none=>none
   | some t=>match exTs l with
     | none=>none
     | some ts=>some (t::ts)
end
noncomputable def ex32 (e:Ex):Option (List UInt8):=if hgt e≤32 then exT e else none
def exNone:Ex→Bool
 | .mk op ty bits name kids=>decide (op=0∧ty=0∧bits=0∧name=[]∧kids.length=0)
def margT (deep:Nat):List UInt8:=(List.replicate (deep+1) [32,32]).flatten
mutual
noncomputable def stT (deep:Nat):St→Option (List UInt8)
 | .mk kind name e body els=>
   if kind=1 then (if nameB name=true∧body.length=0∧els.length=0 then (ex32 e).map fun t=>margT deep++(name++([32,61,32]++(t++[59,10]))) else none)
   else if kind=2 then (if nameB name=true∧exNone e=true∧body.length=0∧els.length=0 then some (margT deep++([108,111,99,107,32]++(name++[59,10]))) else none)
   else if kind=3 then (if nameB name=true∧exNone e=true∧body.length=0∧els.length=0 then some (margT deep++([117,110,108,111,99,107,32]++(name++[59,10]))) else none)
   else if kind=4 then (if name=[]∧body.length=0∧els.length=0 then (ex32 e).map fun t=>margT deep++([97,115,115,101,114,116,32]++(t++[59,10])) else none)
   else if kind=7 then (if name=[]∧exNone e=true∧body.length=0∧els.length=0 then some (margT deep++[115,107,105,112,59,10]) else none)
   else if kind=5∨kind=6 then
    match stsT (deep+1) body,stsT (deep+1) els,ex32 e with
    | some b,some l,some t=>
      if name≠[]∨(kind=6∧0<els.length) then none
      else if kind=6 then some (margT deep++([119,104,105,108,101,32]++(t++([32,123,10]++(b++(margT deep++[125,10]))))))
      else if 0<els.length then some (margT deep++([105,102,32]++(t++([32,123,10]++(b++(margT deep++([125,32,101,108,115,101,32,123,10]++(l++(margT deep++[125,10])))))))))
      else some (margT deep++([105,102,32]++(t++([32,123,10]++(b++(margT deep++[125,10]))))))
    | _,_,_=>none
   else none
noncomputable def stsT (deep:Nat):List St→Option (List UInt8)
 | []=>some []
 | s::l=>if 32<deep then none else match stT deep s with
   | none=>none
   | some t=>match stsT deep l with
     | none=>none
     | some ts=>some (t++ts)
end
def typT (ty:Int):List UInt8:=if ty=2 then [98,111,111,108] else if ty=3 then [114,101,97,108] else [105,110,116]
noncomputable def vrT (word:List UInt8) (v:Vr):Option (List UInt8):=
 if nameB v.name=true then (valT v.ty v.bits).map fun t=>word++(32::(v.name++(32::(typT v.ty++([32,61,32]++(t++[59,10]))))) ) else none
def allT {α:Type} (f:α→Option (List UInt8)):List α→Option (List UInt8)
 | []=>some []
 | x::l=>match f x with
   | none=>none
   | some t=>match allT f l with
     | none=>none
     | some ts=>some (t++ts)
def mxT (m:List UInt8):Option (List UInt8):=if nameB m=true then some ([109,117,116,101,120,32]++(m++[59,10])) else none
noncomputable def thT (t:Th):Option (List UInt8):=
 match allT (vrT [32,32,108,111,99,97,108]) t.locals,stsT 0 t.body with
 | some a,some b=>if nameB t.name=true then some ([116,104,114,101,97,100,32]++(t.name++([32,123,10]++(a++(b++[125,10]))))) else none
 | _,_=>none
noncomputable def pgT (p:Pg):Option (List UInt8):=
 match allT (vrT [115,104,97,114,101,100]) p.shared,allT mxT p.mutexes,allT thT p.threads with
 | some a,some b,some c=>some (a++(b++c))
 | _,_,_=>none
noncomputable def printS (p:Pg):List UInt8:=match pgT p with
 | none=>[]
 | some t=>if 16384<t.length then [] else t
noncomputable def printE (p:Pg):Int:=match pgT p with
 | none=>2
 | some t=>if 16384<t.length then 3 else 0
noncomputable def exprS (e:Ex):List UInt8:=match ex32 e with
 | none=>[]
 | some t=>t
noncomputable def exprE (e:Ex):Int:=match ex32 e with
 | none=>2
 | some _=>0
theorem allT_app {α:Type} (f:α→Option (List UInt8)):∀ (l r:List α),allT f (l++r)=match allT f l,allT f r with
  | some a,some b=>some (a++b)
  | _,_=>none
 | [],r=>by
   simp only [List.nil_append,allT]
   cases allT f r <;> simp
 | x::l,r=>by
   simp only [List.cons_append,allT]
   rw [allT_app f l r]
   cases f x with
   | none=>rfl
   | some a=>
     cases allT f l with
     | none=>rfl
     | some b=>
       cases allT f r with
       | none=>rfl
       | some c=>simp
theorem stsT_all (deep:Nat):∀ (l:List St),stsT deep l=if 32<deep∧0<l.length then none else allT (stT deep) l
 | []=>by simp [stsT,allT]
 | s::l=>by
   simp only [stsT,allT]
   rw [stsT_all deep l]
   by_cases h:32<deep
   · simp [h]
   · simp [h]
theorem exTs_len:∀ {l:List Ex} {ks:List (List UInt8)},exTs l=some ks→ks.length=l.length
 | [],ks,h=>by
   simp only [exTs,Option.some.injEq] at h
   subst h
   rfl
 | e::l,ks,h=>by
   simp only [exTs] at h
   split at h
   · cases h
   split at h
   · cases h
   rename_i h1
   injection h with h
   subst h
   simp [exTs_len h1]
end
section
set_option maxRecDepth 100000
def kidsN (op:Int):Int:=if op=1∨op=2 then 0 else if 3≤op∧op≤15 then 2 else if 16≤op∧op≤19 then 1 else -1
theorem kids_any (op:Int) (w:World):CP 57 #[.int .u8 op] w (.int .i64 (kidsN op)):=by
 go_enter Tryz.func57,Tryz.ntmps57
 go_wp2
 all_goals
  go_ret
  refine ⟨ret_int ?_,rfl⟩
  simp only [kidsN]
  (try simp only [decide_eq_true_eq,decide_eq_false_iff_not,beq_iff_eq,bne_iff_ne,Bool.not_eq_true,beq_eq_false_iff_ne] at *)
  repeat' split
  all_goals first | omega | simp_all
def psignT (op:Int):List UInt8:=if op=16 then [45] else if op=17 then [33] else signT op
open Go.Sy
theorem psign_any (op:Int) (w:World):CB 63 #[n8 op] w (nT (psignT op)):=by
 refine eN [n8 op] Tryz.func63 (fun γ0 hγ0=>?_)
 refine rk ?_
 by_cases h3:op=3
 ·
  refine kz op 3 h3 ?_
  refine rs [] 60 3 ?_
  refine gR (nT [124,124]) (fun W hk=>⟨?_,hk.below⟩)
  subst h3
  rfl
 refine kw op 3 h3 ?_
 refine rk ?_
 by_cases h4:op=4
 ·
  refine kz op 4 h4 ?_
  refine rs [] 60 3 ?_
  refine gR (nT [38,38]) (fun W hk=>⟨?_,hk.below⟩)
  subst h4
  rfl
 refine kw op 4 h4 ?_
 refine rk ?_
 by_cases h5:op=5
 ·
  refine kz op 5 h5 ?_
  refine rs [] 60 3 ?_
  refine gR (nT [61,61]) (fun W hk=>⟨?_,hk.below⟩)
  subst h5
  rfl
 refine kw op 5 h5 ?_
 refine rk ?_
 by_cases h6:op=6
 ·
  refine kz op 6 h6 ?_
  refine rs [] 60 3 ?_
  refine gR (nT [33,61]) (fun W hk=>⟨?_,hk.below⟩)
  subst h6
  rfl
 refine kw op 6 h6 ?_
 refine rk ?_
 by_cases h7:op=7
 ·
  refine kz op 7 h7 ?_
  refine rs [] 60 3 ?_
  refine gR (nT [60]) (fun W hk=>⟨?_,hk.below⟩)
  subst h7
  rfl
 refine kw op 7 h7 ?_
 refine rk ?_
 by_cases h8:op=8
 ·
  refine kz op 8 h8 ?_
  refine rs [] 60 3 ?_
  refine gR (nT [60,61]) (fun W hk=>⟨?_,hk.below⟩)
  subst h8
  rfl
 refine kw op 8 h8 ?_
 refine rk ?_
 by_cases h9:op=9
 ·
  refine kz op 9 h9 ?_
  refine rs [] 60 3 ?_
  refine gR (nT [62]) (fun W hk=>⟨?_,hk.below⟩)
  subst h9
  rfl
 refine kw op 9 h9 ?_
 refine rk ?_
 by_cases h10:op=10
 ·
  refine kz op 10 h10 ?_
  refine rs [] 60 3 ?_
  refine gR (nT [62,61]) (fun W hk=>⟨?_,hk.below⟩)
  subst h10
  rfl
 refine kw op 10 h10 ?_
 refine rk ?_
 by_cases h11:op=11
 ·
  refine kz op 11 h11 ?_
  refine rs [] 60 3 ?_
  refine gR (nT [43]) (fun W hk=>⟨?_,hk.below⟩)
  subst h11
  rfl
 refine kw op 11 h11 ?_
 refine rk ?_
 by_cases h12:op=12
 ·
  refine kz op 12 h12 ?_
  refine rk ?_
  refine kz op 12 h12 ?_
  refine rs [] 60 3 ?_
  refine gR (nT [45]) (fun W hk=>⟨?_,hk.below⟩)
  subst h12
  rfl
 refine kw op 12 h12 ?_
 refine rk ?_
 by_cases h16:op=16
 ·
  refine kz op 16 h16 ?_
  refine rs [] 60 3 ?_
  refine gR (nT [45]) (fun W hk=>⟨?_,hk.below⟩)
  subst h16
  rfl
 refine kw op 16 h16 ?_
 refine rk ?_
 by_cases h13:op=13
 ·
  refine kz op 13 h13 ?_
  refine rs [] 60 3 ?_
  refine gR (nT [42]) (fun W hk=>⟨?_,hk.below⟩)
  subst h13
  rfl
 refine kw op 13 h13 ?_
 refine rk ?_
 by_cases h14:op=14
 ·
  refine kz op 14 h14 ?_
  refine rs [] 60 3 ?_
  refine gR (nT [47]) (fun W hk=>⟨?_,hk.below⟩)
  subst h14
  rfl
 refine kw op 14 h14 ?_
 refine rk ?_
 by_cases h15:op=15
 ·
  refine kz op 15 h15 ?_
  refine rs [] 60 3 ?_
  refine gR (nT [37]) (fun W hk=>⟨?_,hk.below⟩)
  subst h15
  rfl
 refine kw op 15 h15 ?_
 refine rk ?_
 by_cases h17:op=17
 ·
  refine kz op 17 h17 ?_
  refine rs [] 60 3 ?_
  refine gR (nT [33]) (fun W hk=>⟨?_,hk.below⟩)
  subst h17
  rfl
 refine kw op 17 h17 ?_
 refine rk ?_
 refine gR (nT []) (fun W hk=>⟨?_,hk.below⟩)
 simp [psignT,signT,h3,h4,h5,h6,h7,h8,h9,h10,h11,h12,h16,h13,h14,h15,h17]
theorem rsign_any (op:Int) (w:World):CB 85 #[n8 op] w (nT (signT op)):=by
 refine eN [n8 op] Tryz.func85 (fun γ0 hγ0=>?_)
 refine rk ?_
 by_cases h3:op=3
 ·
  refine kz op 3 h3 ?_
  refine rs [] 60 3 ?_
  refine gR (nT [124,124]) (fun W hk=>⟨?_,hk.below⟩)
  subst h3
  rfl
 refine kw op 3 h3 ?_
 refine rk ?_
 by_cases h4:op=4
 ·
  refine kz op 4 h4 ?_
  refine rs [] 60 3 ?_
  refine gR (nT [38,38]) (fun W hk=>⟨?_,hk.below⟩)
  subst h4
  rfl
 refine kw op 4 h4 ?_
 refine rk ?_
 by_cases h5:op=5
 ·
  refine kz op 5 h5 ?_
  refine rs [] 60 3 ?_
  refine gR (nT [61,61]) (fun W hk=>⟨?_,hk.below⟩)
  subst h5
  rfl
 refine kw op 5 h5 ?_
 refine rk ?_
 by_cases h6:op=6
 ·
  refine kz op 6 h6 ?_
  refine rs [] 60 3 ?_
  refine gR (nT [33,61]) (fun W hk=>⟨?_,hk.below⟩)
  subst h6
  rfl
 refine kw op 6 h6 ?_
 refine rk ?_
 by_cases h7:op=7
 ·
  refine kz op 7 h7 ?_
  refine rs [] 60 3 ?_
  refine gR (nT [60]) (fun W hk=>⟨?_,hk.below⟩)
  subst h7
  rfl
 refine kw op 7 h7 ?_
 refine rk ?_
 by_cases h8:op=8
 ·
  refine kz op 8 h8 ?_
  refine rs [] 60 3 ?_
  refine gR (nT [60,61]) (fun W hk=>⟨?_,hk.below⟩)
  subst h8
  rfl
 refine kw op 8 h8 ?_
 refine rk ?_
 by_cases h9:op=9
 ·
  refine kz op 9 h9 ?_
  refine rs [] 60 3 ?_
  refine gR (nT [62]) (fun W hk=>⟨?_,hk.below⟩)
  subst h9
  rfl
 refine kw op 9 h9 ?_
 refine rk ?_
 by_cases h10:op=10
 ·
  refine kz op 10 h10 ?_
  refine rs [] 60 3 ?_
  refine gR (nT [62,61]) (fun W hk=>⟨?_,hk.below⟩)
  subst h10
  rfl
 refine kw op 10 h10 ?_
 refine rk ?_
 by_cases h11:op=11
 ·
  refine kz op 11 h11 ?_
  refine rs [] 60 3 ?_
  refine gR (nT [43]) (fun W hk=>⟨?_,hk.below⟩)
  subst h11
  rfl
 refine kw op 11 h11 ?_
 refine rk ?_
 by_cases h12:op=12
 ·
  refine kz op 12 h12 ?_
  refine rs [] 60 3 ?_
  refine gR (nT [45]) (fun W hk=>⟨?_,hk.below⟩)
  subst h12
  rfl
 refine kw op 12 h12 ?_
 refine rk ?_
 by_cases h13:op=13
 ·
  refine kz op 13 h13 ?_
  refine rs [] 60 3 ?_
  refine gR (nT [42]) (fun W hk=>⟨?_,hk.below⟩)
  subst h13
  rfl
 refine kw op 13 h13 ?_
 refine rk ?_
 by_cases h14:op=14
 ·
  refine kz op 14 h14 ?_
  refine rs [] 60 3 ?_
  refine gR (nT [47]) (fun W hk=>⟨?_,hk.below⟩)
  subst h14
  rfl
 refine kw op 14 h14 ?_
 refine rk ?_
 by_cases h15:op=15
 ·
  refine kz op 15 h15 ?_
  refine rs [] 60 3 ?_
  refine gR (nT [37]) (fun W hk=>⟨?_,hk.below⟩)
  subst h15
  rfl
 refine kw op 15 h15 ?_
 refine rk ?_
 refine gR (nT []) (fun W hk=>⟨?_,hk.below⟩)
 simp [signT,h3,h4,h5,h6,h7,h8,h9,h10,h11,h12,h13,h14,h15]
def ptypT (ty:Int):List UInt8:=if ty=1 then [105,110,116] else if ty=2 then [98,111,111,108] else [114,101,97,108]
theorem ptype_any (ty:Int) (w:World):CB 206 #[n8 ty] w (nT (ptypT ty)):=by
 refine eN [n8 ty] Tryz.func206 (fun γ0 hγ0=>?_)
 refine rk ?_
 by_cases h1:ty=1
 ·
  refine kz ty 1 h1 ?_
  refine rs [] 60 3 ?_
  refine gR (nT [105,110,116]) (fun W hk=>⟨?_,hk.below⟩)
  subst h1
  rfl
 refine kw ty 1 h1 ?_
 refine rk ?_
 by_cases h2:ty=2
 ·
  refine kz ty 2 h2 ?_
  refine rs [] 60 3 ?_
  refine gR (nT [98,111,111,108]) (fun W hk=>⟨?_,hk.below⟩)
  subst h2
  rfl
 refine kw ty 2 h2 ?_
 refine rk ?_
 refine gR (nT [114,101,97,108]) (fun W hk=>⟨?_,hk.below⟩)
 simp [ptypT,h1,h2]
end
section
set_option maxRecDepth 100000
theorem rprint_P (b:Nat) (hb:b<18446744073709551616) (w:World) (ht:Tab w):
  CB 157 #[.int .u64 (b:Int)] w (.tuple #[.string (str ((realP b).getD [])),.int .i64 (if (realP b).isSome then 0 else 2)]):=by
 refine (rprint_any b hb w ht).mono ?_
 rintro e w' ⟨s,y,rfl,hp,hbl⟩
 refine ⟨?_,hbl⟩
 rcases hp with ⟨h1,h2⟩ | ⟨h1,h2,h3⟩
 · subst h1
   rw [realP_ok (.inl ⟨rfl,h2⟩)]
   rfl
 · subst h1 h2
   rw [realP_no (.inr ⟨rfl,rfl,h3⟩) (by decide)]
   rfl
theorem qprint_P (b:Nat) (hb:b<18446744073709551616) (w:World):
  CB 135 #[.int .u64 (b:Int)] w (.tuple #[.string (str ((realP b).getD [])),.int .i64 (if (realP b).isSome then 0 else 2)]):=by
 refine (qprint_any b hb w).mono ?_
 rintro e w' ⟨s,y,rfl,hp,hbl⟩
 refine ⟨?_,hbl⟩
 rcases hp with ⟨h1,h2⟩ | ⟨h1,h2,h3⟩
 · subst h1
   rw [realP_ok (.inl ⟨rfl,h2⟩)]
   rfl
 · subst h1 h2
   rw [realP_no (.inr ⟨rfl,rfl,h3⟩) (by decide)]
   rfl
theorem realP_bound {b:Nat} {t:List UInt8} (h:realP b=some t):toN b=b∧b<9223372036854775808∧PSpec b t 0:=by
 have hx:PSpec (toN b) t 0:=by
  rcases PSpec.total (toN b) with ⟨s,hs⟩ | hs
  · rw [realP_ok hs] at h
    injection h with h
    subst h
    exact hs
  · rw [realP_no hs (by decide)] at h
    cases h
 have hb:∃ k n,LitIs (toN b) k n:=by
  rcases hx with ⟨_,k,n,h1,_⟩ | ⟨h1,_⟩
  · exact ⟨k,n,h1⟩
  · cases h1
 obtain ⟨k,n,hl⟩:=hb
 obtain ⟨_,h2,h3⟩:=hl.bound
 rcases toN_cases b with ⟨_,h4⟩ | ⟨_,h4⟩
 · rw [h4] at h3 hx
   exact ⟨h4,h3,hx⟩
 · rw [h4] at h2
   exact absurd h2 (by decide)
noncomputable def numB (n:Nat):Bool:=decide ((n:Int)=nanBits) || (decide ((n:Int)=infBits) || (realP n).isSome)
theorem ge_pos {n:Nat} (hn:n<18446744073709551616):(!(Sy.intLt (IntKind.wrap .i64 (n:Int)) 0))=decide (n<9223372036854775808):=by
 rw [Sy.intLt_eq,IntKind.wrap_i64]
 by_cases h:n<9223372036854775808
 · rw [decide_eq_true h,decide_eq_false (by omega)]
   rfl
 · rw [decide_eq_false h,decide_eq_true (by omega)]
   rfl
theorem le_one {n:Nat}:(!(Sy.intLt 1 (n:Int)))=decide (n≤1):=by
 rw [Sy.intLt_eq]
 by_cases h:n≤1
 · rw [decide_eq_true h,decide_eq_false (by omega)]
   rfl
 · rw [decide_eq_false h,decide_eq_true (by omega)]
   rfl
theorem and_off {b:Nat} (h:b<18446744073709551616):(b &&& 9223372036854775807)=b % 9223372036854775808:=by
 have:=Nat.and_two_pow_sub_one_eq_mod b 63
 simpa using this
theorem bits_off {b:Nat} (h:b<18446744073709551616):Go.bits .andNot .u64 (b:Int) 9223372036854775808=((b % 9223372036854775808:Nat):Int):=by
 have e:(BitVec.ofInt 64 (b:Int) &&& ~~~(BitVec.ofInt 64 9223372036854775808)).toNat=b % 9223372036854775808:=by
  rw [BitVec.toNat_and]
  have h1:(BitVec.ofInt 64 (b:Int)).toNat=b:=by rw [BitVec.toNat_ofInt];omega
  have h2:(~~~(BitVec.ofInt 64 9223372036854775808)).toNat=9223372036854775807:=by decide
  rw [h1,h2,and_off h]
 show IntKind.u64.wrap _=_
 have e3:∀ n:Int,IntKind.u64.wrap n=n % 18446744073709551616:=fun n=>rfl
 rw [e3]
 have e4:((BitVec.ofInt IntKind.u64.bits (b:Int) &&& ~~~(BitVec.ofInt IntKind.u64.bits 9223372036854775808)).toNat:Nat)=b % 9223372036854775808:=e
 rw [e4]
 omega
theorem cat_str (x y:Operand) (a b:List UInt8) (h:a.length+b.length≤9223372036854775807) (w:World):
  ((do eqGuard .add 9 x y (.string (str a)) (.string (str b));binOp .add 9 (.string (str a)) (.string (str b))):Sem Value).run Tryz.prog w = .ok (.string (str (a++b))) w:=by
 have e:(eqGuard .add 9 x y (.string (str a)) (.string (str b))).run Tryz.prog w = .ok () w:=rfl
 rw [Sem.run_bind,e,← str_append]
 show (Op.stringOp .add (str a) (str b)).run Tryz.prog w=_
 exact run_string_add_sum w (str a) (str b) (by rw [str_size,str_size];exact h)
noncomputable def rTp (n:Nat):List UInt8:=if (n:Int)=9221120237041090560 then [110,97,110] else if (n:Int)=9218868437227405312 then [105,110,102] else (realP n).getD []
noncomputable def rTx (n:Nat):List UInt8:=if n<9223372036854775808 then rTp n else 45::rTp (n - 9223372036854775808)
theorem rTp_len (n:Nat):(rTp n).length≤1048576:=by
 unfold rTp
 split
 · decide
 split
 · decide
 cases h:realP n with
 | none=>decide
 | some t=>exact (realP_bound h).2.2.len
theorem shr_top (n:Nat) (hn:n<18446744073709551616):Int.fdiv (n:Int) (2 ^ min (Int.toNat 63) IntKind.u64.bits)=if n<9223372036854775808 then 0 else 1:=by
 have e:(2:Int) ^ min (Int.toNat 63) IntKind.u64.bits=9223372036854775808:=by decide
 rw [e,Int.fdiv_eq_ediv_of_nonneg _ (by omega)]
 split <;> omega
open Go.Sy
theorem number_any (n:Nat) (hn:n<18446744073709551616) (w:World) (ht:Tab w):
  CB 106 #[n6 (n:Int)] w (.bool (numB n)):=by
 refine eN [n6 (n:Int)] Tryz.func106 (fun γ0 hγ0=>?_)
 refine rs [8] 60 0 ?_
 by_cases h1:(n:Int)=9221120237041090560
 ·
  refine gS 6 (x := .bool (intEq (n:Int) 9221120237041090560)) (.bool true) (by rw [eq_t h1]) ?_
  refine gS 7 (x := .bool (intEq (n:Int) 9221120237041090560)) (.bool true) (by rw [eq_t h1]) ?_
  refine rs [] 60 3 ?_
  refine gR (.bool true) (fun W hk=>⟨?_,hk.below⟩)
  simp [numB,nanBits,h1]
 refine gS 6 (x := .bool (intEq (n:Int) 9221120237041090560)) (.bool false) (by rw [eq_f h1]) ?_
 refine gS 7 (x := .bool (intEq (n:Int) 9221120237041090560)) (.bool false) (by rw [eq_f h1]) ?_
 refine rk ?_
 by_cases h2:(n:Int)=9218868437227405312
 ·
  refine kz (n:Int) 9218868437227405312 h2 ?_
  refine rk ?_
  refine gR (.bool true) (fun W hk=>⟨?_,hk.below⟩)
  simp [numB,infBits,h2]
 refine kw (n:Int) 9218868437227405312 h2 ?_
 refine rk ?_
 have hp:=fun W (hk:Keep (·<w.heap.size) w W)=>rprint_P n hn W (ht.below hk.below)
 cases h3:realP n with
 | none=>
   refine gX [n6 (n:Int)] (.tuple #[nT [],nI 2]) (fun W hk=>by have:=hp W hk;rw [h3] at this;exact this) ?_
   refine rs [] 60 3 ?_
   refine gR (.bool false) (fun W hk=>⟨?_,hk.below⟩)
   simp [numB,nanBits,infBits,h1,h2,h3]
 | some t=>
   refine gX [n6 (n:Int)] (.tuple #[nT t,nI 0]) (fun W hk=>by have:=hp W hk;rw [h3] at this;exact this) ?_
   refine rs [] 60 3 ?_
   refine gP [n6 (n:Int)] (.bool true) (fun W hk=>kmay W (realP_bound h3).1) ?_
   refine rs [] 60 3 ?_
   refine gR (.bool true) (fun W hk=>⟨?_,hk.below⟩)
   simp [numB,h3]
noncomputable def litB (ty:Int) (n:Nat):Bool:=if ty=1 then decide (n<9223372036854775808) else if ty=2 then decide (n≤1) else if ty=3 then numB n else false
theorem tliteral_any (ty:Int) (n:Nat) (hn:n<18446744073709551616) (w:World) (ht:Tab w):
  CB 59 #[.agg #[n8 ty,n6 (n:Int)]] w (.bool (litB ty n)):=by
 refine eN [.agg #[n8 ty,n6 (n:Int)]] Tryz.func59 (fun γ0 hγ0=>?_)
 refine rk ?_
 by_cases h1:ty=1
 ·
  refine kz ty 1 h1 ?_
  refine rs [] 60 3 ?_
  refine gR (.bool (!(intLt (IntKind.wrap .i64 (n:Int)) 0))) (fun W hk=>⟨?_,hk.below⟩)
  rw [litB,if_pos h1,ge_pos hn]
 refine kw ty 1 h1 ?_
 refine rk ?_
 by_cases h2:ty=2
 ·
  refine kz ty 2 h2 ?_
  refine rs [] 60 3 ?_
  refine gR (.bool (!(intLt 1 (n:Int)))) (fun W hk=>⟨?_,hk.below⟩)
  rw [litB,if_neg h1,if_pos h2,le_one]
 refine kw ty 2 h2 ?_
 refine rk ?_
 by_cases h3:ty=3
 ·
  refine kz ty 3 h3 ?_
  refine rs [] 60 3 ?_
  refine gX [n6 (n:Int)] (.bool (numB n)) (fun W hk=>number_any n hn W (ht.below hk.below)) ?_
  refine rs [] 60 3 ?_
  refine gR (.bool (numB n)) (fun W hk=>⟨?_,hk.below⟩)
  rw [litB,if_neg h1,if_neg h2,if_pos h3]
 refine kw ty 3 h3 ?_
 refine rs [] 60 3 ?_
 refine gR (.bool false) (fun W hk=>⟨?_,hk.below⟩)
 simp [litB,h1,h2,h3]
open Classical in
noncomputable def firB (ty:Int) (n:Nat):Bool:=if ty=1 then !decide ((n:Int)=9223372036854775808) else if ty=2 then decide (n≤1) else if ty=3 then (if (n:Int)=9221120237041090560 then true else if toN n=n then numB (n % 9223372036854775808) else false) else false
theorem tfirst_any (ty:Int) (n:Nat) (hn:n<18446744073709551616) (w:World) (ht:Tab w):
  CB 231 #[.agg #[n8 ty,n6 (n:Int)]] w (.bool (firB ty n)):=by
 refine eN [.agg #[n8 ty,n6 (n:Int)]] Tryz.func231 (fun γ0 hγ0=>?_)
 refine rk ?_
 by_cases h1:ty=1
 ·
  refine kz ty 1 h1 ?_
  refine rs [] 60 3 ?_
  refine gR (.bool (!(intEq (n:Int) 9223372036854775808))) (fun W hk=>⟨?_,hk.below⟩)
  rw [firB,if_pos h1,intEq_eq]
 refine kw ty 1 h1 ?_
 refine rk ?_
 by_cases h2:ty=2
 ·
  refine kz ty 2 h2 ?_
  refine rs [] 60 3 ?_
  refine gR (.bool (!(intLt 1 (n:Int)))) (fun W hk=>⟨?_,hk.below⟩)
  rw [firB,if_neg h1,if_pos h2,le_one]
 refine kw ty 2 h2 ?_
 refine rk ?_
 by_cases h3:ty=3
 rotate_left
 ·
  refine kw ty 3 h3 ?_
  refine rs [] 60 3 ?_
  refine gR (.bool false) (fun W hk=>⟨?_,hk.below⟩)
  simp [firB,h1,h2,h3]
 refine kz ty 3 h3 ?_
 refine rk ?_
 by_cases h4:(n:Int)=9221120237041090560
 ·
  refine kz (n:Int) 9221120237041090560 h4 ?_
  refine rs [] 60 3 ?_
  refine gR (.bool true) (fun W hk=>⟨?_,hk.below⟩)
  rw [firB,if_neg h1,if_neg h2,if_pos h3,if_pos h4]
 refine kw (n:Int) 9221120237041090560 h4 ?_
 refine rk ?_
 by_cases h5:toN n=n
 rotate_left
 ·
  refine gP [n6 (n:Int)] (.bool false) (fun W hk=>by have:=pmay_any (n:Int) W;rw [Int.toNat_natCast,beq_false_of_ne (fun h=>h5 (by omega))] at this;exact this) ?_
  refine rs [] 60 3 ?_
  refine gR (.bool false) (fun W hk=>⟨?_,hk.below⟩)
  rw [firB,if_neg h1,if_neg h2,if_pos h3,if_neg h4,if_neg h5]
 refine gP [n6 (n:Int)] (.bool true) (fun W hk=>kmay W h5) ?_
 refine rs [27] 60 3 ?_
 refine gS 26 (x:=n6 (Go.bits .andNot .u64 (n:Int) 9223372036854775808)) (n6 ((n % 9223372036854775808:Nat):Int)) (by rw [bits_off hn]) ?_
 refine rs [] 60 3 ?_
 refine gX [n6 ((n % 9223372036854775808:Nat):Int)] (.bool (numB (n % 9223372036854775808))) (fun W hk=>number_any _ (by omega) W (ht.below hk.below)) ?_
 refine rs [] 60 3 ?_
 refine gR (.bool (numB (n % 9223372036854775808))) (fun W hk=>⟨?_,hk.below⟩)
 rw [firB,if_neg h1,if_neg h2,if_pos h3,if_neg h4,if_pos h5]
theorem realTextP_any (n:Nat) (hp:n<9223372036854775808) (w:World) (ht:Tab w):
  CB 115 #[n6 (n:Int)] w (nT (rTp n)):=by
 refine eN [n6 (n:Int)] Tryz.func115 (fun γ0 hγ0=>?_)
 refine rk ?_
 by_cases h1:(n:Int)=9221120237041090560
 ·
  refine kz (n:Int) 9221120237041090560 h1 ?_
  refine rs [] 60 3 ?_
  refine gR (nT [110,97,110]) (fun W hk=>⟨?_,hk.below⟩)
  rw [rTp,if_pos h1]
 refine kw (n:Int) 9221120237041090560 h1 ?_
 refine rk ?_
 by_cases h2:(n:Int)=9218868437227405312
 ·
  refine kz (n:Int) 9218868437227405312 h2 ?_
  refine rs [] 60 3 ?_
  refine gR (nT [105,110,102]) (fun W hk=>⟨?_,hk.below⟩)
  rw [rTp,if_neg h1,if_pos h2]
 refine kw (n:Int) 9218868437227405312 h2 ?_
 refine rs [12] 60 0 ?_
 refine gS 11 (x:=n6 (Int.fdiv (n:Int) (2 ^ min (Int.toNat 63) IntKind.u64.bits))) (n6 0) (by rw [shr_top n (by omega),if_pos hp]) ?_
 refine rs [] 60 1 ?_
 refine gX [n6 (n:Int)] (.tuple #[nT ((realP n).getD []),nI (if (realP n).isSome then 0 else 2)]) (fun W hk=>rprint_P n (by omega) W (ht.below hk.below)) ?_
 refine rs [] 60 1 ?_
 refine gR (nT ((realP n).getD [])) (fun W hk=>⟨?_,hk.below⟩)
 rw [rTp,if_neg h1,if_neg h2]
theorem realTextN_any (n:Nat) (hn:n<18446744073709551616) (hp:9223372036854775808≤n) (w:World) (ht:Tab w):
  CB 115 #[n6 (n:Int)] w (nT (rTx n)):=by
 refine eN [n6 (n:Int)] Tryz.func115 (fun γ0 hγ0=>?_)
 refine rk ?_
 have h1:¬ (n:Int)=9221120237041090560:=by omega
 refine kw (n:Int) 9221120237041090560 h1 ?_
 refine rk ?_
 have h2:¬ (n:Int)=9218868437227405312:=by omega
 refine kw (n:Int) 9218868437227405312 h2 ?_
 refine rs [12] 60 0 ?_
 refine gS 11 (x:=n6 (Int.fdiv (n:Int) (2 ^ min (Int.toNat 63) IntKind.u64.bits))) (n6 1) (by rw [shr_top n (by omega),if_neg (by omega)]) ?_
 refine rs [] 60 1 ?_
 obtain ⟨m,hm⟩:∃ m,m=n - 9223372036854775808:=⟨_,rfl⟩
 have e14:Go.bits .xor .u64 (n:Int) 9223372036854775808=(m:Int):=by rw [bits_neg hn,negW,if_neg (by omega),hm]
 refine gX [n6 (Go.bits .xor .u64 (n:Int) 9223372036854775808)] (nT (rTp m)) (fun W hk=>by rw [e14];exact realTextP_any m (by omega) W (ht.below hk.below)) ?_
 refine rs [16] 60 1 ?_
 refine gC [45] (rTp m) (by have:=rTp_len m;simp;omega) ?_
 refine rs [] 60 1 ?_
 refine gR (nT ([45]++rTp m)) (fun W hk=>⟨?_,hk.below⟩)
 rw [rTx,if_neg (by omega),← hm]
 rfl
theorem ifbool_any (b:Bool) (w:World):CB 160 #[.bool b] w (nT (if b then [116,114,117,101] else [102,97,108,115,101])):=by
 cases b
 ·
  refine eN [.bool false] Tryz.func160 (fun γ0 hγ0=>?_)
  refine rs [] 60 3 ?_
  refine gR (nT [102,97,108,115,101]) (fun W hk=>⟨rfl,hk.below⟩)
 ·
  refine eN [.bool true] Tryz.func160 (fun γ0 hγ0=>?_)
  refine rs [] 60 3 ?_
  refine gR (nT [116,114,117,101]) (fun W hk=>⟨rfl,hk.below⟩)
theorem fbool_any (b:Bool) (w:World):CB 114 #[.bool b] w (nT (if b then [116,114,117,101] else [102,97,108,115,101])):=by
 cases b
 ·
  refine eN [.bool false] Tryz.func114 (fun γ0 hγ0=>?_)
  refine rs [] 60 3 ?_
  refine gX [.bool false] (nT [102,97,108,115,101]) (fun W hk=>ifbool_any false W) ?_
  refine rs [] 60 3 ?_
  refine gR (nT [102,97,108,115,101]) (fun W hk=>⟨rfl,hk.below⟩)
 ·
  refine eN [.bool true] Tryz.func114 (fun γ0 hγ0=>?_)
  refine rs [] 60 3 ?_
  refine gX [.bool true] (nT [116,114,117,101]) (fun W hk=>ifbool_any true W) ?_
  refine rs [] 60 3 ?_
  refine gR (nT [116,114,117,101]) (fun W hk=>⟨rfl,hk.below⟩)
theorem realText_any (n:Nat) (hn:n<18446744073709551616) (w:World) (ht:Tab w):
  CB 115 #[.int .u64 (n:Int)] w (.string (str (rTx n))):=by
 by_cases hp:n<9223372036854775808
 · have:=realTextP_any n hp w ht
   unfold rTx
   rw [if_pos hp]
   exact this
 · exact realTextN_any n hn (by omega) w ht
noncomputable def vTx (ty:Int) (n:Nat):List UInt8:=if ty=1 then Lib.itoa (IntKind.wrap .i64 (n:Int)) else if ty=2 then (if (n:Int)=1 then [116,114,117,101] else [102,97,108,115,101]) else rTx n
theorem tvalue_any (ty:Int) (n:Nat) (hn:n<18446744073709551616) (w:World) (ht:Tab w):
  CB 62 #[.agg #[n8 ty,n6 (n:Int)]] w (nT (vTx ty n)):=by
 refine eN [.agg #[n8 ty,n6 (n:Int)]] Tryz.func62 (fun γ0 hγ0=>?_)
 refine rk ?_
 by_cases h1:ty=1
 ·
  refine kz ty 1 h1 ?_
  refine rk ?_
  refine gX [nI (IntKind.wrap .i64 (n:Int)),nI 10] (nT (Lib.itoa (IntKind.wrap .i64 (n:Int)))) (fun W hk=>(Tryz.strconv_FormatInt_10 _ (by rw [IntKind.wrap_i64];omega) (by rw [IntKind.wrap_i64];omega) W (ht.below hk.below)).mono fun e w' ⟨h1,k,os,h2⟩=>⟨h1,by rw [h2];exact below_growK _ _ _⟩) ?_
  refine rs [] 60 1 ?_
  refine gR (nT (Lib.itoa (IntKind.wrap .i64 (n:Int)))) (fun W hk=>⟨?_,hk.below⟩)
  rw [vTx,if_pos h1]
 refine kw ty 1 h1 ?_
 refine rk ?_
 by_cases h2:ty=2
 ·
  refine kz ty 2 h2 ?_
  refine rs [16] 60 0 ?_
  by_cases h3:(n:Int)=1
  ·
   refine gS 15 (x := .bool (intEq (n:Int) 1)) (.bool true) (by rw [eq_t h3]) ?_
   refine gX [.bool true] (nT [116,114,117,101]) (fun W hk=>fbool_any true W) ?_
   refine rs [] 60 1 ?_
   refine gR (nT [116,114,117,101]) (fun W hk=>⟨?_,hk.below⟩)
   rw [vTx,if_neg h1,if_pos h2,if_pos h3]
  ·
   refine gS 15 (x := .bool (intEq (n:Int) 1)) (.bool false) (by rw [eq_f h3]) ?_
   refine gX [.bool false] (nT [102,97,108,115,101]) (fun W hk=>fbool_any false W) ?_
   refine rs [] 60 1 ?_
   refine gR (nT [102,97,108,115,101]) (fun W hk=>⟨?_,hk.below⟩)
   rw [vTx,if_neg h1,if_pos h2,if_neg h3]
 refine kw ty 2 h2 ?_
 refine rk ?_
 refine gX [n6 (n:Int)] (nT (rTx n)) (fun W hk=>realText_any n hn W (ht.below hk.below)) ?_
 refine rs [] 60 1 ?_
 refine gR (nT (rTx n)) (fun W hk=>⟨?_,hk.below⟩)
 rw [vTx,if_neg h1,if_neg h2]
theorem wrap_lo {n:Nat} (h:n<9223372036854775808):Lib.itoa (IntKind.wrap .i64 (n:Int))=Lib.decDigits (n:Int).toNat:=by
 have e:IntKind.wrap .i64 (n:Int)=(n:Int):=by rw [IntKind.wrap_i64];omega
 rw [e]
 unfold Lib.itoa
 rw [if_neg (by omega)]
theorem wrap_hi {n:Nat} (hn:n<18446744073709551616) (h:¬ n<9223372036854775808):Lib.itoa (IntKind.wrap .i64 (n:Int))=45::Lib.decDigits (18446744073709551616 - (n:Int)).toNat:=by
 obtain ⟨z,hz⟩:∃ z,z=IntKind.wrap .i64 (n:Int):=⟨_,rfl⟩
 have e:z=(n:Int) - 18446744073709551616:=by rw [hz,IntKind.wrap_i64];omega
 rw [← hz]
 unfold Lib.itoa
 rw [if_pos (by omega)]
 have e2:z.natAbs=(18446744073709551616 - (n:Int)).toNat:=by omega
 rw [e2]
theorem litT1 (b:Int):litT 1 b=if b<signBits then some (Lib.decDigits b.toNat) else none:=by unfold litT;rw [if_pos rfl]
theorem litT2 (b:Int):litT 2 b=if b=1 then some [116,114,117,101] else if b=0 then some [102,97,108,115,101] else none:=by unfold litT;rw [if_neg (by decide),if_pos rfl]
theorem litT3 (b:Int):litT 3 b=if b=nanBits then some [110,97,110] else if b=infBits then some [105,110,102] else if b<signBits then realP b.toNat else none:=by unfold litT;rw [if_neg (by decide),if_neg (by decide),if_pos rfl]
theorem litT0 {ty:Int} (h1:ty≠1) (h2:ty≠2) (h3:ty≠3) (b:Int):litT ty b=none:=by unfold litT;rw [if_neg h1,if_neg h2,if_neg h3]
theorem lit3 (n:Nat):numB n=(litT 3 (n:Int)).isSome∧∀ t,litT 3 (n:Int)=some t→n<9223372036854775808∧rTp n=t:=by
 rw [litT3]
 unfold numB rTp nanBits infBits signBits
 by_cases h4:(n:Int)=9221120237041090560
 · rw [if_pos h4,if_pos h4,decide_eq_true h4]
   exact ⟨rfl,fun t ht=>⟨by omega,by injection ht⟩⟩
 · rw [if_neg h4,if_neg h4,decide_eq_false h4]
   by_cases h5:(n:Int)=9218868437227405312
   · rw [if_pos h5,if_pos h5,decide_eq_true h5]
     exact ⟨rfl,fun t ht=>⟨by omega,by injection ht⟩⟩
   · rw [if_neg h5,if_neg h5,decide_eq_false h5,Int.toNat_natCast]
     by_cases h6:(n:Int)<9223372036854775808
     · rw [if_pos h6]
       exact ⟨by simp,fun t ht=>⟨by omega,by rw [ht];rfl⟩⟩
     · rw [if_neg h6]
       refine ⟨?_,fun t ht=>by cases ht⟩
       cases h7:realP n with
       | none=>rfl
       | some t=>exact absurd (realP_bound h7).2.1 (by omega)
theorem toN_neg {n m:Nat} (hn:n<18446744073709551616) (h:¬ n<9223372036854775808) (hm:m=n - 9223372036854775808) (hx:toN n≠n):toN m=9221120237041090560:=by
 have hnm:m=negW n:=by rw [hm];unfold negW;rw [if_neg h]
 have h1:nanW n=true:=by
  rcases toN_cases n with ⟨_,h2⟩ | ⟨h2,_⟩
  · exact absurd h2 hx
  · have h3:=nanW_iff n
    cases hb:nanW n with
    | true=>rfl
    | false=>
      rw [hb] at h3
      rw [show FloatKind.f64.format.order n n=none from h2] at h3
      cases h3
 have h2:nanW m=true:=by rw [hnm,nanW_neg hn,h1]
 rcases toN_cases m with ⟨h3,_⟩ | ⟨_,h4⟩
 · have h5:=nanW_iff m
   rw [h2,show FloatKind.f64.format.order m m=some .eq from h3] at h5
   cases h5
 · exact h4
theorem lit_plain (ty:Int) (n:Nat) (hn:n<18446744073709551616):litB ty n=(litT ty (n:Int)).isSome∧∀ t,litT ty (n:Int)=some t→vTx ty n=t:=by
 by_cases h1:ty=1
 · subst h1
   rw [litT1]
   unfold litB vTx signBits
   rw [if_pos rfl,if_pos rfl]
   by_cases h:n<9223372036854775808
   · rw [decide_eq_true h,if_pos (show (n:Int)<9223372036854775808 by omega),wrap_lo h]
     exact ⟨rfl,fun t ht=>by injection ht⟩
   · rw [decide_eq_false h,if_neg (show ¬ (n:Int)<9223372036854775808 by omega)]
     exact ⟨rfl,fun t ht=>by cases ht⟩
 by_cases h2:ty=2
 · subst h2
   rw [litT2]
   unfold litB vTx
   rw [if_neg h1,if_pos rfl,if_neg h1,if_pos rfl]
   by_cases h3:(n:Int)=1
   · rw [if_pos h3,if_pos h3,decide_eq_true (by omega)]
     exact ⟨rfl,fun t ht=>by injection ht⟩
   · rw [if_neg h3,if_neg h3]
     by_cases h4:(n:Int)=0
     · rw [if_pos h4,decide_eq_true (by omega)]
       exact ⟨rfl,fun t ht=>by injection ht⟩
     · rw [if_neg h4,decide_eq_false (by omega)]
       exact ⟨rfl,fun t ht=>by cases ht⟩
 by_cases h3:ty=3
 · subst h3
   obtain ⟨g1,g2⟩:=lit3 n
   unfold litB vTx
   rw [if_neg h1,if_neg h2,if_pos rfl,if_neg h1,if_neg h2]
   refine ⟨g1,fun t ht=>?_⟩
   obtain ⟨g3,g4⟩:=g2 t ht
   unfold rTx
   rw [if_pos g3,g4]
 · rw [litT0 h1 h2 h3]
   unfold litB
   rw [if_neg h1,if_neg h2,if_neg h3]
   exact ⟨rfl,fun t ht=>by cases ht⟩
theorem fir_plain (ty:Int) (n:Nat) (hn:n<18446744073709551616):firB ty n=(valT ty (n:Int)).isSome∧∀ t,valT ty (n:Int)=some t→vTx ty n=t:=by
 by_cases h1:ty=1
 · subst h1
   unfold firB valT vTx signBits
   rw [if_pos rfl,if_pos rfl,if_pos rfl]
   by_cases h:n<9223372036854775808
   · rw [if_pos (show (n:Int)<9223372036854775808 by omega),decide_eq_false (show ¬ (n:Int)=9223372036854775808 by omega),wrap_lo h]
     exact ⟨rfl,fun t ht=>by injection ht⟩
   · rw [if_neg (show ¬ (n:Int)<9223372036854775808 by omega)]
     by_cases h4:(n:Int)=9223372036854775808
     · rw [if_pos h4,decide_eq_true h4]
       exact ⟨rfl,fun t ht=>by cases ht⟩
     · rw [if_neg h4,decide_eq_false h4,wrap_hi hn h]
       exact ⟨rfl,fun t ht=>by injection ht⟩
 have hlit:=lit_plain ty n hn
 by_cases h3:ty=3
 · subst h3
   unfold firB valT vTx
   rw [if_neg h1,if_neg (show ¬ (3:Int)=2 by decide),if_pos (show (3:Int)=3 from rfl),if_neg h1,if_pos (show (3:Int)=3 from rfl),if_neg h1,if_neg (show ¬ (3:Int)=2 by decide)]
   unfold signBits rTx
   by_cases h:n<9223372036854775808
   · rw [if_pos (show (n:Int)<9223372036854775808 by omega),if_pos h]
     obtain ⟨g1,g2⟩:=lit3 n
     refine ⟨?_,fun t ht=>(g2 t ht).2⟩
     rw [← g1,Nat.mod_eq_of_lt h]
     by_cases h4:(n:Int)=9221120237041090560
     · rw [if_pos h4]
       unfold numB nanBits
       rw [decide_eq_true h4]
       rfl
     · rw [if_neg h4]
       by_cases h5:toN n=n
       · rw [if_pos h5]
       · rw [if_neg h5]
         unfold numB nanBits infBits
         have h6:¬ (n:Int)=9218868437227405312:=fun h6=>h5 (by
          have:n=9218868437227405312:=by omega
          subst this
          decide)
         rw [decide_eq_false h4,decide_eq_false h6]
         cases h7:realP n with
         | none=>rfl
         | some t=>exact absurd (realP_bound h7).1 h5
   · rw [if_neg (show ¬ (n:Int)<9223372036854775808 by omega),if_neg h,if_neg (show ¬ (n:Int)=9221120237041090560 by omega)]
     obtain ⟨m,hm⟩:∃ m,m=n - 9223372036854775808:=⟨_,rfl⟩
     have hm1:(n:Int) - 9223372036854775808=(m:Int):=by omega
     have hm2:n % 9223372036854775808=m:=by omega
     rw [hm1,hm2,← hm]
     obtain ⟨g1,g2⟩:=lit3 m
     unfold nanBits
     by_cases h4:(m:Int)=9221120237041090560
     · rw [if_pos h4]
       refine ⟨?_,fun t ht=>by cases ht⟩
       have hmn:m=9221120237041090560:=by omega
       have hn2:n=18444492273895866368:=by omega
       have h5:¬ toN n=n:=by
        rw [hn2]
        decide
       rw [if_neg h5]
       rfl
     · rw [if_neg h4]
       by_cases h5:toN n=n
       · rw [if_pos h5,g1]
         refine ⟨by cases litT 3 (m:Int) <;> rfl,fun t ht=>?_⟩
         cases h6:litT 3 (m:Int) with
         | none=>rw [h6] at ht;cases ht
         | some t'=>
           rw [h6] at ht
           injection ht with ht
           rw [(g2 t' h6).2]
           exact ht
       · rw [if_neg h5]
         have hN:=toN_neg hn h hm h5
         have hnone:litT 3 (m:Int)=none:=by
          rw [litT3]
          unfold nanBits infBits signBits
          rw [if_neg h4]
          have h6:¬ (m:Int)=9218868437227405312:=fun h6=>by
           have hmn:m=9218868437227405312:=by omega
           rw [hmn] at hN
           exact absurd hN (by decide)
          rw [if_neg h6,if_pos (show (m:Int)<9223372036854775808 by omega),Int.toNat_natCast]
          cases h7:realP m with
          | none=>rfl
          | some t=>
            have:=(realP_bound h7).1
            rw [hN] at this
            exact absurd (show (m:Int)=9221120237041090560 by omega) h4
         rw [hnone]
         exact ⟨rfl,fun t ht=>by cases ht⟩
 · have e:valT ty (n:Int)=litT ty (n:Int):=by unfold valT;rw [if_neg h1,if_neg h3]
   rw [e]
   refine ⟨?_,hlit.2⟩
   rw [← hlit.1]
   unfold firB litB
   rw [if_neg h1,if_neg h1,if_neg h3,if_neg h3]
end
section
set_option maxRecDepth 100000
noncomputable def okE (r:Nat) (e:Ex):Bool:=decide (hgt e≤r)&&(exT e).isSome
noncomputable def okEs (r:Nat) (l:List Ex):Bool:=decide (hgts l≤r)&&(exTs l).isSome
theorem okEs_nil (r:Nat):okEs r []=true:=by simp [okEs,hgts,exTs]
theorem okEs_cons (r:Nat) (e:Ex) (l:List Ex):okEs r (e::l)=(okE r e&&okEs r l):=by
 unfold okEs okE
 have hh:hgts (e::l)=max (hgt e) (hgts l):=by simp only [hgts]
 simp only [exTs]
 by_cases h1:hgt e≤r
 · by_cases h2:hgts l≤r
   · rw [decide_eq_true (show hgts (e::l)≤r by omega),decide_eq_true h1,decide_eq_true h2]
     cases exT e with
     | none=>rfl
     | some t=>cases exTs l <;> rfl
   · rw [decide_eq_false (show ¬ hgts (e::l)≤r by omega),decide_eq_false h2]
     simp
 · rw [decide_eq_false (show ¬ hgts (e::l)≤r by omega),decide_eq_false h1]
   simp
theorem okEs_app (r:Nat):∀ (l m:List Ex),okEs r (l++m)=(okEs r l&&okEs r m)
 | [],m=>by simp [okEs_nil]
 | e::l,m=>by rw [List.cons_append,okEs_cons,okEs_cons,okEs_app r l m,Bool.and_assoc]
theorem okE_zero (e:Ex):okE 0 e=false:=by
 cases e
 unfold okE
 simp [hgt]
noncomputable def litL (op ty:Int) (bn:Nat):Bool:=if op=1 then litB ty bn else vEq ty bn 0 0
noncomputable def namL (op:Int) (name:List UInt8):Bool:=if op=2 then nameB name else Sy.bEqL name []
theorem vEq_zero (ty:Int) (bn:Nat):vEq ty bn 0 0=true↔ty=0∧(bn:Int)=0:=by
 unfold vEq
 rw [Sy.intEq_eq,Sy.intEq_eq]
 simp
theorem bEq_nil (name:List UInt8):Sy.bEqL name []=true↔name=[]:=by
 rw [Sy.bEqL_eq]
 simp
theorem okE_mk (r:Nat) (op ty:Int) (bn:Nat) (name:List UInt8) (kids:List Ex) (hb:bn<18446744073709551616):
  okE (r+1) (.mk op ty bn name kids)=(decide (kidsN op=(kids.length:Int))&&(okEs r kids&&(litL op ty bn&&namL op name))):=by
 unfold okE okEs
 have hh:hgt (.mk op ty bn name kids)=hgts kids+1:=by simp only [hgt]
 by_cases h:hgts kids≤r
 · rw [decide_eq_true (show hgt (.mk op ty bn name kids)≤r+1 by omega),decide_eq_true h]
   simp only [exT,Bool.true_and]
   cases hx:exTs kids with
   | none=>simp
   | some ks=>
     have hl:=exTs_len hx
     simp only [Option.isSome_some,Bool.true_and]
     by_cases z1:op≠1∧¬ (ty=0∧(bn:Int)=0)
     · have:litL op ty bn=false:=by
        unfold litL
        rw [if_neg z1.1,← Bool.not_eq_true,vEq_zero]
        exact z1.2
       rw [this,if_pos (.inl z1)]
       simp
     by_cases z2:op≠2∧name≠[]
     · have:namL op name=false:=by
        unfold namL
        rw [if_neg z2.1,← Bool.not_eq_true,bEq_nil]
        exact z2.2
       rw [this,if_pos (.inr z2)]
       simp
     rw [if_neg (by rintro (h | h) <;> contradiction)]
     have hz:op≠1→litL op ty bn=true:=fun h=>by
      unfold litL
      rw [if_neg h,vEq_zero]
      exact Classical.byContradiction fun h'=>z1 ⟨h,h'⟩
     have hn:op≠2→namL op name=true:=fun h=>by
      unfold namL
      rw [if_neg h,bEq_nil]
      exact Classical.byContradiction fun h'=>z2 ⟨h,h'⟩
     have hk0:kids.length=ks.length:=hl.symm
     rw [hk0]
     by_cases c1:op=1
     · subst c1
       rw [if_pos rfl,hn (by decide),show kidsN 1=0 from rfl,show litL 1 ty bn=litB ty bn from rfl,(lit_plain ty bn hb).1]
       cases ks <;> simp <;> omega
     rw [if_neg c1]
     by_cases c2:op=2
     · subst c2
       rw [if_pos rfl,hz (by decide),show kidsN 2=0 from rfl,show namL 2 name=nameB name from rfl]
       cases ks with
       | nil=>cases nameB name <;> simp
       | cons a b=>simp;omega
     rw [if_neg c2,hz c1,hn c2]
     unfold kidsN
     rw [if_neg (show ¬ (op=1∨op=2) by omega)]
     by_cases c3:3≤op∧op≤15
     · rw [if_pos c3,if_pos c3]
       match ks with
       | []=>simp
       | [_]=>simp
       | [_,_]=>simp
       | _::_::_::l=>simp;omega
     rw [if_neg c3,if_neg c3]
     by_cases c4:16≤op∧op≤19
     · rw [if_pos c4]
       have h4:op=16∨op=17∨op=18∨op=19:=by omega
       match ks with
       | []=>rcases h4 with h | h | h | h <;> simp [h]
       | [_]=>rcases h4 with h | h | h | h <;> simp [h]
       | _::_::l=>rcases h4 with h | h | h | h <;> simp [h] <;> omega
     · rw [if_neg c4,if_neg (show ¬ op=16 by omega),if_neg (show ¬ op=17 by omega),if_neg (show ¬ op=18 by omega),if_neg (show ¬ op=19 by omega)]
       simp
 · rw [decide_eq_false (show ¬ hgt (.mk op ty bn name kids)≤r+1 by omega),decide_eq_false h]
   simp
theorem exBs_app:∀ (l r:List Ex),exBs (l++r)=exBs l+exBs r
 | [],r=>by simp [exBs]
 | e::l,r=>by
   rw [List.cons_append]
   simp only [exBs]
   rw [exBs_app l r]
   omega
open Go.Sy
theorem zero_any (ty bits:Int) (w:World):CB 58 #[.agg #[n8 ty,n6 bits]] w (.bool (vEq ty bits 0 0)):=by
 refine eN [.agg #[n8 ty,n6 bits]] Tryz.func58 (fun γ0 hγ0=>?_)
 refine rs [5] 60 0 ?_
 refine gV (.bool (vEq ty bits 0 0)) (S:=(do eqGuard .eql 26 (.tmp 3) (.tmp 4) (.agg #[n8 ty,n6 bits]) (.agg #[n8 0,n6 0]);binOp .eql 26 (.agg #[n8 ty,n6 bits]) (.agg #[n8 0,n6 0]))) (fun W _=>run_eql_value _ _ _ _ _ _ W) ?_
 refine rs [] 60 1 ?_
 exact gR (.bool (vEq ty bits 0 0)) (fun W hk=>⟨rfl,hk.below⟩)
theorem texpr_any:∀ (N:Nat) (e:Ex) (cs:List Value) (r:Nat) (w:World),wgt e≤N→wgt e≤1000000000000→r≤1000→exB e≤1000000000000→exR e→Tab w→ExAt (·<w.heap.size) w e cs→
  Calls Tryz.prog 31 #[.agg cs.toArray,nI (r:Int)] w fun v w'=>∃ h,v = .returned (.tuple #[nI h,.bool (okE r e)])∧(okE r e=true→h=(hgt e:Nat))∧Below w.heap.size w w':=by
 intro N
 induction N with
 | zero=>intro e cs r w h;have:=wgt_pos e;omega
 | succ N ihN=>
   intro e cs r w hN hbd hr hB hR ht hat
   obtain ⟨op,ty,bits,name,kids⟩:=e
   simp only [ExAt] at hat
   obtain ⟨a,cap,xs,rfl,hsl,hks⟩:=hat
   simp only [exR] at hR
   obtain ⟨hop,hty,hbit,hkR⟩:=hR
   obtain ⟨bn,rfl⟩:∃ bn:Nat,bits=(bn:Int):=⟨bits.toNat,by omega⟩
   have hbn:bn<18446744073709551616:=by omega
   simp only [wgt] at hN hbd
   simp only [exB] at hB
   have hnm:name.length≤maxLen:=by unfold maxLen;omega
   obtain ⟨n,hn⟩:∃ n,n=kids.length:=⟨_,rfl⟩
   have hnl:=wgts_len kids
   rw [← hn] at hsl hnl ⊢
   refine eN [xV op ty (bn:Int) name a n cap,nI (r:Int)] Tryz.func31 (fun γ0 hγ0=>?_)
   refine rk ?_
   refine gP [n8 op] (nI (kidsN op)) (fun W hk=>kids_any op W) ?_
   refine rs [20] 60 0 ?_
   by_cases hk0:kidsN op<0
   ·
    refine zx 18 (kidsN op) 0 hk0 ?_
    refine zx 19 (kidsN op) 0 hk0 ?_
    refine rs [] 60 4 ?_
    refine gR (.tuple #[nI 0,.bool false]) (fun W hk=>⟨0,?_,fun h=>?_,hk.below⟩)
    · rw [show okE r (.mk op ty bn name kids)=false by cases r with | zero=>exact okE_zero _ | succ r=>rw [okE_mk _ _ _ _ _ _ hbn,decide_eq_false (by omega)];rfl]
    · rw [show okE r (.mk op ty bn name kids)=false by cases r with | zero=>exact okE_zero _ | succ r=>rw [okE_mk _ _ _ _ _ _ hbn,decide_eq_false (by omega)];rfl] at h;cases h
   refine zy 18 (kidsN op) 0 hk0 ?_
   refine zy 19 (kidsN op) 0 hk0 ?_
   refine rs [27] 60 0 ?_
   by_cases hk1:(n:Int)=kidsN op
   rotate_left
   ·
    refine gS 24 (x := .bool (!(intEq (n:Int) (kidsN op)))) (.bool true) (by rw [eq_f hk1];rfl) ?_
    refine gS 25 (x := .bool (!(intEq (n:Int) (kidsN op)))) (.bool true) (by rw [eq_f hk1];rfl) ?_
    refine gS 26 (x := .bool (!(intEq (n:Int) (kidsN op)))) (.bool true) (by rw [eq_f hk1];rfl) ?_
    refine rs [] 60 4 ?_
    refine gR (.tuple #[nI 0,.bool false]) (fun W hk=>⟨0,?_,fun h=>?_,hk.below⟩)
    · rw [show okE r (.mk op ty bn name kids)=false by cases r with | zero=>exact okE_zero _ | succ r=>rw [okE_mk _ _ _ _ _ _ hbn,decide_eq_false (by omega)];rfl]
    · rw [show okE r (.mk op ty bn name kids)=false by cases r with | zero=>exact okE_zero _ | succ r=>rw [okE_mk _ _ _ _ _ _ hbn,decide_eq_false (by omega)];rfl] at h;cases h
   refine gS 24 (x := .bool (!(intEq (n:Int) (kidsN op)))) (.bool false) (by rw [eq_t hk1];rfl) ?_
   refine gS 25 (x := .bool (!(intEq (n:Int) (kidsN op)))) (.bool false) (by rw [eq_t hk1];rfl) ?_
   refine gS 26 (x := .bool (!(intEq (n:Int) (kidsN op)))) (.bool false) (by rw [eq_t hk1];rfl) ?_
   refine rk ?_
   cases r with
   | zero=>
     refine gK true (b:=intLt ((0:Nat):Int) 1) (rfl) ?_
     refine rs [] 60 1 ?_
     exact gR (.tuple #[nI 0,.bool false]) (fun W hk=>⟨0,(congrArg (fun b=>Ending.returned (.tuple #[nI 0,.bool b])) (okE_zero _).symm),(fun h=>by rw [okE_zero] at h;cases h),hk.below⟩)
   | succ r=>
     rw [okE_mk _ _ _ _ _ _ hbn,decide_eq_true (by omega),Bool.true_and]
     refine ky ((r+1:Nat):Int) 1 (by omega) ?_
     obtain ⟨L,hL⟩:∃ L,L=litL op ty bn:=⟨_,rfl⟩
     obtain ⟨M,hM⟩:∃ M,M=namL op name:=⟨_,rfl⟩
     rw [← hL,← hM]
     have hγ1:∀ b,gz+1≤b→γ0 b=none:=fun b hb=>hγ0 b (Nat.le_trans (Nat.le_succ _) hb)
     have tail:Go.Sy.Good Tryz.prog (·<w.heap.size) w γ0 Tryz.f31.ntmps (bodyPostD Tryz.prog Tryz.f31 (fun e w'=>∃ h,e = .returned (.tuple #[nI h,.bool (okEs r kids&&(L&&M))])∧((okEs r kids&&(L&&M))=true→h=(hgt (.mk op ty bn name kids):Nat))∧Below w.heap.size w w')) ⟨[.code (seqR (seqR (seqR (seqR (seqR (Tryz.f31.body.getD .skip))))))],⟨mkT [(1,vI ((r+1:Nat):Int)),(2,.ptr gz 0),(7,vB L),(8,vB M)],mkH [(gz,bK 29 5 (xA op ty (bn:Int) name a n cap))],gz+1,[]⟩⟩:=by
      refine rk ?_
      refine good_toLp ?_
      refine good_loopI (fun i:List Ex×List Ex=>i.2.length) (fun i=>kids=i.1++i.2∧okEs r i.1=true) (fun i=>⟨mkT [(1,vI ((r+1:Nat):Int)),(7,vB L),(8,vB M),(9,vI ((hgts i.1:Nat):Int)),(49,vL a n cap),(50,vI (n:Int)),(51,vI (i.1.length:Int))],mkH [(gz,bK 29 5 (xA op ty (bn:Int) name a n cap))],gz+1,[]⟩)
       ([],kids) ⟨rfl,okEs_nil r⟩ (by kernel_rfl)
       (fun h=>gU _ [(1,vI ((r+1:Nat):Int)),(7,vB L),(8,vB M),(9,vI ((hgts ([]:List Ex):Nat):Int)),(49,vL a n cap),(50,vI (n:Int)),(51,vI (([]:List Ex).length:Int))] [(gz,bK 29 5 (xA op ty (bn:Int) name a n cap))] (gz+1) hγ1 h) ?_
      rintro ⟨l1,l2⟩ ⟨hI,hok⟩ ih
      have hI:kids=l1++l2:=hI
      have hok:okEs r l1=true:=hok
      have hn2:n=l1.length+l2.length:=by rw [hn,hI,List.length_append]
      have hw1:wgts kids=wgts l1+wgts l2:=by rw [hI,wgts_app]
      have hh1:=hgts_le l1
      have hh2:=hgts_le kids
      refine rk ?_
      cases l2 with
      | nil=>
        refine ky (l1.length:Int) (n:Int) (by simp at hn2;omega) ?_
        refine rs [72] 60 0 ?_
        have hkl:l1=kids:=by rw [hI];simp
        have e1:hgt (.mk op ty bn name l1)=hgts l1+1:=by simp only [hgt]
        rw [← hkl] at hh2 ⊢
        rw [hok,Bool.true_and]
        cases L with
        | false=>
          refine rs [] 60 3 ?_
          refine gR (.tuple #[nI (wrapF .i64 ((hgts l1:Nat)+1)),.bool (false&&M)]) (fun W hk=>⟨_,rfl,fun _=>?_,hk.below⟩)
          rw [e1,wr64 (by omega) (by omega)]
          omega
        | true=>
          refine rs [] 60 3 ?_
          refine gR (.tuple #[nI (wrapF .i64 ((hgts l1:Nat)+1)),.bool (true&&M)]) (fun W hk=>⟨_,rfl,fun _=>?_,hk.below⟩)
          rw [e1,wr64 (by omega) (by omega)]
          omega
      | cons x l3=>
        have hin:l1.length<n:=by rw [hn2,List.length_cons];omega
        have hks2:=hks
        rw [hI] at hks2
        obtain ⟨c,hc,hcell⟩:=hks2.at_
        have hcl:=hc.len
        simp only [wgts] at hw1
        have hwe:=wgt_pos x
        have hhe:=hgt_le x
        have hxR:exR x:=exRs_mem.1 hkR x (by rw [hI];simp)
        refine kx (l1.length:Int) (n:Int) (by omega) ?_
        refine rk ?_
        refine gI 27 29 cap l1.length hsl hin ?_
        refine rk ?_
        have hld:=fun W hk=>load_slA (P:=Tryz.prog) (ty:=29) (m:=5) (cs:=c) hsl (by kernel_rfl) (by kernel_rfl) l1.length 0 hcl hcell (W:=W) hk
        have hcall:=fun W hk=>ihN x c r W (by omega) (by omega) (by omega) (by rw [hI] at hB;simp only [exBs_app,exBs] at hB;omega) hxR (ht.below (Keep.below hk)) (hc.keep hk (kU hk))
        obtain ⟨op2,ty2,bits2,name2,kids2⟩:=x
        simp only [ExAt] at hc
        obtain ⟨a2,cap2,xs2,rfl,_⟩:=hc
        refine gV (xV op2 ty2 bits2 name2 a2 kids2.length cap2) (S:=Instr.loadAt 29 (.pointer (some ⟨gB a,oB a+l1.length*5+0,none⟩))) (fun W hk=>hld W hk) ?_
        refine rs [59] 60 0 ?_
        refine gS 58 (x:=nI (wrapF .i64 (((r+1:Nat):Int) - 1))) (nI (r:Int)) (by rw [wr64 (by omega) (by omega)];congr 1;omega) ?_
        refine gE [xV op2 ty2 bits2 name2 a2 kids2.length cap2,nI (r:Int)] (fun v=>∃ h,v = .tuple #[nI h,.bool (okE r (Ex.mk op2 ty2 bits2 name2 kids2))]∧(okE r (Ex.mk op2 ty2 bits2 name2 kids2)=true→h=(hgt (Ex.mk op2 ty2 bits2 name2 kids2):Nat))) (fun W hk=>(hcall W hk).mono fun e w' ⟨h,h1,h2,h3⟩=>⟨_,h1,⟨h,rfl,h2⟩,h3⟩) ?_
        rintro v w2 ⟨h,rfl,hh⟩ hk2
        cases hx:okE r (Ex.mk op2 ty2 bits2 name2 kids2) with
        | false=>
          refine rs [] 60 3 ?_
          have hall:okEs r kids=false:=by rw [hI,okEs_app,okEs_cons,hx];simp
          refine gR (.tuple #[nI 0,.bool false]) (fun W hk=>⟨0,(by rw [hall];rfl),(fun h=>by rw [hall] at h;cases h),hk.below⟩)
        | true=>
          have hh:=hh hx
          subst hh
          refine rs [] 60 1 ?_
          have hs1:okEs r (l1++[(Ex.mk op2 ty2 bits2 name2 kids2)])=true:=by rw [okEs_app,okEs_cons,hok,hx,okEs_nil];rfl
          refine gS 9 (x:=nI (if ((hgt (Ex.mk op2 ty2 bits2 name2 kids2):Nat):Int) > ((hgts l1:Nat):Int) then ((hgt (Ex.mk op2 ty2 bits2 name2 kids2):Nat):Int) else ((hgts l1:Nat):Int))) (nI ((hgts (l1++[(Ex.mk op2 ty2 bits2 name2 kids2)]):Nat):Int)) (by rw [hgts_snoc];congr 1;split <;> omega) ?_
          refine gS 51 (x:=nI (wrapF .i64 ((l1.length:Int)+1))) (nI ((l1++[(Ex.mk op2 ty2 bits2 name2 kids2)]).length:Nat)) (by rw [wr64 (by omega) (by omega)];congr 1;simp) ?_
          exact gU _ [(1,vI ((r+1:Nat):Int)),(7,vB L),(8,vB M),(9,vI ((hgts (l1++[(Ex.mk op2 ty2 bits2 name2 kids2)]):Nat):Int)),(49,vL a n cap),(50,vI (n:Int)),(51,vI ((l1++[(Ex.mk op2 ty2 bits2 name2 kids2)]).length:Int))] [(gz,bK 29 5 (xA op ty (bn:Int) name a n cap))] (gz+1) hγ1 (ih (l1++[(Ex.mk op2 ty2 bits2 name2 kids2)],l3) ⟨by show kids=(l1++[_])++l3;rw [hI];simp,hs1⟩ lS1)
     refine rk ?_
     refine good_draw sy_mixed (by kernel_rfl) ?_
     refine q_run [] 60 ?_
     refine qB [.agg #[n8 ty,n6 (bn:Int)]] (.bool (vEq ty (bn:Int) 0 0)) (fun W hk=>zero_any _ _ W) ?_
     refine q_run [] 60 ?_
     refine qE ?_
     refine rk ?_
     by_cases c1:op=1
     ·
      refine kz op 1 c1 ?_
      refine rk ?_
      refine gX [.agg #[n8 ty,n6 (bn:Int)]] (.bool (litB ty bn)) (fun W hk=>tliteral_any ty bn hbn W (ht.below (Keep.below hk))) ?_
      refine rs [] 3 0 ?_
      refine gS 7 (x := .bool (litB ty bn)) (.bool L) (by rw [hL,litL,if_pos c1]) ?_
      refine gS 8 (x := .bool (bEqL name [])) (.bool M) (by rw [hM,namL,if_neg (by omega)]) ?_
      exact gU [.code (seqR (seqR (seqR (seqR (seqR (Tryz.f31.body.getD .skip))))))] [(1,vI ((r+1:Nat):Int)),(2,.ptr gz 0),(7,vB L),(8,vB M)] [(gz,bK 29 5 (xA op ty (bn:Int) name a n cap))] (gz+1) hγ1 tail
     refine kw op 1 c1 ?_
     refine rk ?_
     by_cases c2:op=2
     ·
      refine kz op 2 c2 ?_
      refine rk ?_
      refine gP [nT name] (.bool (nameB name)) (fun W hk=>name_any name W hnm) ?_
      refine rs [] 3 0 ?_
      refine gS 7 (x := .bool (vEq ty (bn:Int) 0 0)) (.bool L) (by rw [hL,litL,if_neg c1]) ?_
      refine gS 8 (x := .bool (nameB name)) (.bool M) (by rw [hM,namL,if_pos c2]) ?_
      exact gU [.code (seqR (seqR (seqR (seqR (seqR (Tryz.f31.body.getD .skip))))))] [(1,vI ((r+1:Nat):Int)),(2,.ptr gz 0),(7,vB L),(8,vB M)] [(gz,bK 29 5 (xA op ty (bn:Int) name a n cap))] (gz+1) hγ1 tail
     refine kw op 2 c2 ?_
     refine rs [] 2 0 ?_
     refine gS 7 (x := .bool (vEq ty (bn:Int) 0 0)) (.bool L) (by rw [hL,litL,if_neg c1]) ?_
     refine gS 8 (x := .bool (bEqL name [])) (.bool M) (by rw [hM,namL,if_neg c2]) ?_
     exact gU [.code (seqR (seqR (seqR (seqR (seqR (Tryz.f31.body.getD .skip))))))] [(1,vI ((r+1:Nat):Int)),(2,.ptr gz 0),(7,vB L),(8,vB M)] [(gz,bK 29 5 (xA op ty (bn:Int) name a n cap))] (gz+1) hγ1 tail
end
section
set_option maxRecDepth 100000
open Go.Sy
theorem idxSt_any (p:St→Bool) (q:Nat) (L:List (St)) (a:Option Addr) (n cap:Nat) (xs:List Value) (w:World) (hn:n=L.length) (hbd:n≤1000000000000) (hsl:SlAt (·<w.heap.size) w a n 9 xs) (hks:LsAt (StAt (·<w.heap.size) w) L xs) (hf:∀ x∈L,∀ cs W,Sy.Keep (·<w.heap.size) w W→StAt (·<W.heap.size) W x cs→CB 235 #[.agg cs.toArray,nP q] W (.bool (p x))):
  Calls Tryz.prog 248 #[.slice a n cap,.func (.func 235) #[] #[nP q]] w fun e w'=>∃ i:Int,e = .returned (nI i)∧L.any p=decide (0≤i)∧Below w.heap.size w w':=by
 refine eN [.slice a n cap,.func (.func 235) #[] #[nP q]] Tryz.func248 (fun γ0 hγ0=>?_)
 refine rk ?_
 refine good_toLp ?_
 refine good_loopI (fun i:List (St)×List (St)=>i.2.length) (fun i=>L=i.1++i.2∧i.1.any p=false) (fun i=>⟨mkT [(0,vL a n cap),(1,norm (.func (.func 235) #[] #[nP q])),(7,vI (n:Int)),(8,vI (i.1.length:Int))],mkH [],gz,[]⟩)
  ([],L) ⟨rfl,rfl⟩ (by kernel_rfl)
  (fun h=>gU _ [(0,vL a n cap),(1,norm (.func (.func 235) #[] #[nP q])),(7,vI (n:Int)),(8,vI (([]:List (St)).length:Int))] [] gz hγ0 h) ?_
 rintro ⟨l1,l2⟩ ⟨hI,hany⟩ ih
 have hI:L=l1++l2:=hI
 have hany:l1.any p=false:=hany
 have hn2:n=l1.length+l2.length:=by rw [hn,hI,List.length_append]
 refine rk ?_
 cases l2 with
 | nil=>
   refine ky (l1.length:Int) (n:Int) (by simp at hn2;omega) ?_
   refine rk ?_
   exact gR (nI (-1)) (fun W hk=>⟨_,rfl,(by rw [hI,List.append_nil,hany];rfl),hk.below⟩)
 | cons x l3=>
   have hin:l1.length<n:=by rw [hn2,List.length_cons];omega
   have hks2:=hks
   rw [hI] at hks2
   obtain ⟨c,hc,hcell⟩:=LsAt.at_ (k:=9) (fun _ _ h=>h.len) hks2
   have hcall:=fun W (hk:Keep (·<w.heap.size) w W)=>hf x (by rw [hI];simp) c W hk (hc.keep hk (kU hk))
   refine kx (l1.length:Int) (n:Int) (by omega) ?_
   refine rk ?_
   refine gI 53 91 cap l1.length hsl hin ?_
   refine rk ?_
   obtain ⟨uK,us,⟨uo,ut,uv,un,uk⟩,uB,uL⟩:=x
   simp only [StAt] at hc
   obtain ⟨ucs,uj,uh,ubx,ui,uw,ulx,rfl,uhe,_⟩:=hc
   simp only [ExAt] at uhe
   obtain ⟨uf,ug,uex,rfl,_⟩:=uhe
   refine gD 91 9 (yL uK us uo ut uv un uf uk.length ug uj uB.length uh ui uL.length uw) l1.length 0 hsl rfl hcell ?_
   refine rk ?_
   cases hp:p (St.mk uK us (Ex.mk uo ut uv un uk) uB uL) with
   | true=>
     refine gX [yV uK us uo ut uv un uf uk.length ug uj uB.length uh ui uL.length uw,nP q] (.bool true) (fun W hk=>by have:=hcall W hk;rw [hp] at this;exact this) ?_
     refine rs [] 60 3 ?_
     exact gR (nI (l1.length:Int)) (fun W hk=>⟨_,rfl,(by rw [hI,List.any_append,List.any_cons,hp,hany,decide_eq_true (by omega)];rfl),hk.below⟩)
   | false=>
     refine gX [yV uK us uo ut uv un uf uk.length ug uj uB.length uh ui uL.length uw,nP q] (.bool false) (fun W hk=>by have:=hcall W hk;rw [hp] at this;exact this) ?_
     refine rs [] 60 1 ?_
     refine gS 8 (x:=nI (wrapF .i64 ((l1.length:Int)+1))) (nI ((l1++[(St.mk uK us (Ex.mk uo ut uv un uk) uB uL)]).length:Nat)) (by rw [wr64 (by omega) (by omega)];congr 1;simp) ?_
     exact gU _ [(0,vL a n cap),(1,norm (.func (.func 235) #[] #[nP q])),(7,vI (n:Int)),(8,vI ((l1++[(St.mk uK us (Ex.mk uo ut uv un uk) uB uL)]).length:Int))] [] gz hγ0 (ih (l1++[(St.mk uK us (Ex.mk uo ut uv un uk) uB uL)],l3) ⟨by show L=(l1++[_])++l3;rw [hI];simp,by show (l1++[_]).any p=false;rw [List.any_append,hany,List.any_cons,hp];rfl⟩ lS1)
theorem conSt_any (p:St→Bool) (q:Nat) (L:List (St)) (a:Option Addr) (n cap:Nat) (xs:List Value) (w:World) (hn:n=L.length) (hbd:n≤1000000000000) (hsl:SlAt (·<w.heap.size) w a n 9 xs) (hks:LsAt (StAt (·<w.heap.size) w) L xs) (hf:∀ x∈L,∀ cs W,Sy.Keep (·<w.heap.size) w W→StAt (·<W.heap.size) W x cs→CB 235 #[.agg cs.toArray,nP q] W (.bool (p x))):
  CB 234 #[.slice a n cap,.func (.func 235) #[] #[nP q]] w (.bool (L.any p)):=by
 refine eN [.slice a n cap,.func (.func 235) #[] #[nP q]] Tryz.func234 (fun γ0 hγ0=>?_)
 refine rk ?_
 refine gN [.slice a n cap,.func (.func 235) #[] #[nP q]] (fun v=>∃ i:Int,v=nI i∧L.any p=decide (0≤i)) (fun W hk=>(idxSt_any p q L a n cap xs W hn hbd ((hsl.keep hk).mono (kU hk)) (hks.imp fun x c hc=>hc.keep hk (kU hk)) (fun x hx cs W2 hk2=>hf x hx cs W2 (hk.trans (hk2.mono (kU hk))))).mono fun e w' ⟨i,h1,h2,h3⟩=>⟨_,h1,⟨i,rfl,h2⟩,h3⟩) ?_
 rintro v w2 ⟨i,rfl,hi⟩ hk2
 refine rk ?_
 refine gR (.bool (!(intLt i 0))) (fun W hk=>⟨?_,hk.below⟩)
 rw [hi,intLt_eq]
 by_cases h:0≤i
 · rw [decide_eq_true h,decide_eq_false (by omega)]
   rfl
 · rw [decide_eq_false h,decide_eq_true (by omega)]
   rfl
theorem idxVr_any (p:Vr→Bool) (L:List (Vr)) (a:Option Addr) (n cap:Nat) (xs:List Value) (w:World) (hn:n=L.length) (hbd:n≤1000000000000) (hsl:SlAt (·<w.heap.size) w a n 3 xs) (hks:LsAt (VrAt) L xs) (hf:∀ x∈L,∀ cs W,Sy.Keep (·<w.heap.size) w W→VrAt x cs→CB 198 #[.agg cs.toArray] W (.bool (p x))):
  Calls Tryz.prog 188 #[.slice a n cap,.func (.func 198) #[] #[]] w fun e w'=>∃ i:Int,e = .returned (nI i)∧L.any p=decide (0≤i)∧Below w.heap.size w w':=by
 refine eN [.slice a n cap,.func (.func 198) #[] #[]] Tryz.func188 (fun γ0 hγ0=>?_)
 refine rk ?_
 refine good_toLp ?_
 refine good_loopI (fun i:List (Vr)×List (Vr)=>i.2.length) (fun i=>L=i.1++i.2∧i.1.any p=false) (fun i=>⟨mkT [(0,vL a n cap),(1,norm (.func (.func 198) #[] #[])),(7,vI (n:Int)),(8,vI (i.1.length:Int))],mkH [],gz,[]⟩)
  ([],L) ⟨rfl,rfl⟩ (by kernel_rfl)
  (fun h=>gU _ [(0,vL a n cap),(1,norm (.func (.func 198) #[] #[])),(7,vI (n:Int)),(8,vI (([]:List (Vr)).length:Int))] [] gz hγ0 h) ?_
 rintro ⟨l1,l2⟩ ⟨hI,hany⟩ ih
 have hI:L=l1++l2:=hI
 have hany:l1.any p=false:=hany
 have hn2:n=l1.length+l2.length:=by rw [hn,hI,List.length_append]
 refine rk ?_
 cases l2 with
 | nil=>
   refine ky (l1.length:Int) (n:Int) (by simp at hn2;omega) ?_
   refine rk ?_
   exact gR (nI (-1)) (fun W hk=>⟨_,rfl,(by rw [hI,List.append_nil,hany];rfl),hk.below⟩)
 | cons x l3=>
   have hin:l1.length<n:=by rw [hn2,List.length_cons];omega
   have hks2:=hks
   rw [hI] at hks2
   obtain ⟨c,hc,hcell⟩:=LsAt.at_ (k:=3) (fun _ _ h=>h.len) hks2
   have hcall:=fun W (hk:Keep (·<w.heap.size) w W)=>hf x (by rw [hI];simp) c W hk (hc)
   refine kx (l1.length:Int) (n:Int) (by omega) ?_
   refine rk ?_
   refine gI 52 108 cap l1.length hsl hin ?_
   refine rk ?_
   obtain ⟨uname,ut,uv⟩:=x
   obtain rfl:c=[nT uname,n8 ut,n6 uv]:=hc
   refine gD 108 3 [nT uname,n8 ut,n6 uv] l1.length 0 hsl rfl hcell ?_
   refine rk ?_
   cases hp:p (Vr.mk uname ut uv) with
   | true=>
     refine gX [.agg #[nT uname,n8 ut,n6 uv]] (.bool true) (fun W hk=>by have:=hcall W hk;rw [hp] at this;exact this) ?_
     refine rs [] 60 3 ?_
     exact gR (nI (l1.length:Int)) (fun W hk=>⟨_,rfl,(by rw [hI,List.any_append,List.any_cons,hp,hany,decide_eq_true (by omega)];rfl),hk.below⟩)
   | false=>
     refine gX [.agg #[nT uname,n8 ut,n6 uv]] (.bool false) (fun W hk=>by have:=hcall W hk;rw [hp] at this;exact this) ?_
     refine rs [] 60 1 ?_
     refine gS 8 (x:=nI (wrapF .i64 ((l1.length:Int)+1))) (nI ((l1++[(Vr.mk uname ut uv)]).length:Nat)) (by rw [wr64 (by omega) (by omega)];congr 1;simp) ?_
     exact gU _ [(0,vL a n cap),(1,norm (.func (.func 198) #[] #[])),(7,vI (n:Int)),(8,vI ((l1++[(Vr.mk uname ut uv)]).length:Int))] [] gz hγ0 (ih (l1++[(Vr.mk uname ut uv)],l3) ⟨by show L=(l1++[_])++l3;rw [hI];simp,by show (l1++[_]).any p=false;rw [List.any_append,hany,List.any_cons,hp];rfl⟩ lS1)
theorem conVr_any (p:Vr→Bool) (L:List (Vr)) (a:Option Addr) (n cap:Nat) (xs:List Value) (w:World) (hn:n=L.length) (hbd:n≤1000000000000) (hsl:SlAt (·<w.heap.size) w a n 3 xs) (hks:LsAt (VrAt) L xs) (hf:∀ x∈L,∀ cs W,Sy.Keep (·<w.heap.size) w W→VrAt x cs→CB 198 #[.agg cs.toArray] W (.bool (p x))):
  CB 200 #[.slice a n cap,.func (.func 198) #[] #[]] w (.bool (L.any p)):=by
 refine eN [.slice a n cap,.func (.func 198) #[] #[]] Tryz.func200 (fun γ0 hγ0=>?_)
 refine rk ?_
 refine gN [.slice a n cap,.func (.func 198) #[] #[]] (fun v=>∃ i:Int,v=nI i∧L.any p=decide (0≤i)) (fun W hk=>(idxVr_any p L a n cap xs W hn hbd ((hsl.keep hk).mono (kU hk)) (hks.imp fun x c hc=>hc) (fun x hx cs W2 hk2=>hf x hx cs W2 (hk.trans (hk2.mono (kU hk))))).mono fun e w' ⟨i,h1,h2,h3⟩=>⟨_,h1,⟨i,rfl,h2⟩,h3⟩) ?_
 rintro v w2 ⟨i,rfl,hi⟩ hk2
 refine rk ?_
 refine gR (.bool (!(intLt i 0))) (fun W hk=>⟨?_,hk.below⟩)
 rw [hi,intLt_eq]
 by_cases h:0≤i
 · rw [decide_eq_true h,decide_eq_false (by omega)]
   rfl
 · rw [decide_eq_false h,decide_eq_true (by omega)]
   rfl
theorem idxTx_any (p:List UInt8→Bool) (L:List (List UInt8)) (a:Option Addr) (n cap:Nat) (xs:List Value) (w:World) (hn:n=L.length) (hbd:n≤1000000000000) (hsl:SlAt (·<w.heap.size) w a n 1 xs) (hks:LsAt (TxAt) L xs) (hf:∀ x∈L,∀ cs W,Sy.Keep (·<w.heap.size) w W→TxAt x cs→Calls Tryz.prog 202 (cs.toArray) W fun e w'=>e = .returned (.bool (p x))∧Below W.heap.size W w'):
  Calls Tryz.prog 232 #[.slice a n cap,.func (.func 202) #[] #[]] w fun e w'=>∃ i:Int,e = .returned (nI i)∧L.any p=decide (0≤i)∧Below w.heap.size w w':=by
 refine eN [.slice a n cap,.func (.func 202) #[] #[]] Tryz.func232 (fun γ0 hγ0=>?_)
 refine rk ?_
 refine good_toLp ?_
 refine good_loopI (fun i:List (List UInt8)×List (List UInt8)=>i.2.length) (fun i=>L=i.1++i.2∧i.1.any p=false) (fun i=>⟨mkT [(0,vL a n cap),(1,norm (.func (.func 202) #[] #[])),(7,vI (n:Int)),(8,vI (i.1.length:Int))],mkH [],gz,[]⟩)
  ([],L) ⟨rfl,rfl⟩ (by kernel_rfl)
  (fun h=>gU _ [(0,vL a n cap),(1,norm (.func (.func 202) #[] #[])),(7,vI (n:Int)),(8,vI (([]:List (List UInt8)).length:Int))] [] gz hγ0 h) ?_
 rintro ⟨l1,l2⟩ ⟨hI,hany⟩ ih
 have hI:L=l1++l2:=hI
 have hany:l1.any p=false:=hany
 have hn2:n=l1.length+l2.length:=by rw [hn,hI,List.length_append]
 refine rk ?_
 cases l2 with
 | nil=>
   refine ky (l1.length:Int) (n:Int) (by simp at hn2;omega) ?_
   refine rk ?_
   exact gR (nI (-1)) (fun W hk=>⟨_,rfl,(by rw [hI,List.append_nil,hany];rfl),hk.below⟩)
 | cons x l3=>
   have hin:l1.length<n:=by rw [hn2,List.length_cons];omega
   have hks2:=hks
   rw [hI] at hks2
   obtain ⟨c,hc,hcell⟩:=LsAt.at_ (k:=1) (fun _ _ h=>h.len) hks2
   have hcall:=fun W (hk:Keep (·<w.heap.size) w W)=>hf x (by rw [hI];simp) c W hk (hc)
   refine kx (l1.length:Int) (n:Int) (by omega) ?_
   refine rk ?_
   refine gI 30 9 cap l1.length hsl hin ?_
   refine rk ?_
   obtain rfl:c=[nT x]:=hc
   refine gL 9 (nT x) l1.length 0 hsl (hcell 0 _ rfl) ?_
   refine rk ?_
   cases hp:p x with
   | true=>
     refine gX [nT x] (.bool true) (fun W hk=>by have:=hcall W hk;rw [hp] at this;exact this) ?_
     refine rs [] 60 3 ?_
     exact gR (nI (l1.length:Int)) (fun W hk=>⟨_,rfl,(by rw [hI,List.any_append,List.any_cons,hp,hany,decide_eq_true (by omega)];rfl),hk.below⟩)
   | false=>
     refine gX [nT x] (.bool false) (fun W hk=>by have:=hcall W hk;rw [hp] at this;exact this) ?_
     refine rs [] 60 1 ?_
     refine gS 8 (x:=nI (wrapF .i64 ((l1.length:Int)+1))) (nI ((l1++[x]).length:Nat)) (by rw [wr64 (by omega) (by omega)];congr 1;simp) ?_
     exact gU _ [(0,vL a n cap),(1,norm (.func (.func 202) #[] #[])),(7,vI (n:Int)),(8,vI ((l1++[x]).length:Int))] [] gz hγ0 (ih (l1++[x],l3) ⟨by show L=(l1++[_])++l3;rw [hI];simp,by show (l1++[_]).any p=false;rw [List.any_append,hany,List.any_cons,hp];rfl⟩ lS1)
theorem conTx_any (p:List UInt8→Bool) (L:List (List UInt8)) (a:Option Addr) (n cap:Nat) (xs:List Value) (w:World) (hn:n=L.length) (hbd:n≤1000000000000) (hsl:SlAt (·<w.heap.size) w a n 1 xs) (hks:LsAt (TxAt) L xs) (hf:∀ x∈L,∀ cs W,Sy.Keep (·<w.heap.size) w W→TxAt x cs→Calls Tryz.prog 202 (cs.toArray) W fun e w'=>e = .returned (.bool (p x))∧Below W.heap.size W w'):
  CB 201 #[.slice a n cap,.func (.func 202) #[] #[]] w (.bool (L.any p)):=by
 refine eN [.slice a n cap,.func (.func 202) #[] #[]] Tryz.func201 (fun γ0 hγ0=>?_)
 refine rk ?_
 refine gN [.slice a n cap,.func (.func 202) #[] #[]] (fun v=>∃ i:Int,v=nI i∧L.any p=decide (0≤i)) (fun W hk=>(idxTx_any p L a n cap xs W hn hbd ((hsl.keep hk).mono (kU hk)) (hks.imp fun x c hc=>hc) (fun x hx cs W2 hk2=>hf x hx cs W2 (hk.trans (hk2.mono (kU hk))))).mono fun e w' ⟨i,h1,h2,h3⟩=>⟨_,h1,⟨i,rfl,h2⟩,h3⟩) ?_
 rintro v w2 ⟨i,rfl,hi⟩ hk2
 refine rk ?_
 refine gR (.bool (!(intLt i 0))) (fun W hk=>⟨?_,hk.below⟩)
 rw [hi,intLt_eq]
 by_cases h:0≤i
 · rw [decide_eq_true h,decide_eq_false (by omega)]
   rfl
 · rw [decide_eq_false h,decide_eq_true (by omega)]
   rfl
theorem idxTh_any (p:Th→Bool) (q:Nat) (L:List (Th)) (a:Option Addr) (n cap:Nat) (xs:List Value) (w:World) (hn:n=L.length) (hbd:n≤1000000000000) (hsl:SlAt (·<w.heap.size) w a n 3 xs) (hks:LsAt (ThAt (·<w.heap.size) w) L xs) (hf:∀ x∈L,∀ cs W,Sy.Keep (·<w.heap.size) w W→ThAt (·<W.heap.size) W x cs→CB 204 #[.agg cs.toArray,nP q] W (.bool (p x))):
  Calls Tryz.prog 233 #[.slice a n cap,.func (.func 204) #[] #[nP q]] w fun e w'=>∃ i:Int,e = .returned (nI i)∧L.any p=decide (0≤i)∧Below w.heap.size w w':=by
 refine eN [.slice a n cap,.func (.func 204) #[] #[nP q]] Tryz.func233 (fun γ0 hγ0=>?_)
 refine rk ?_
 refine good_toLp ?_
 refine good_loopI (fun i:List (Th)×List (Th)=>i.2.length) (fun i=>L=i.1++i.2∧i.1.any p=false) (fun i=>⟨mkT [(0,vL a n cap),(1,norm (.func (.func 204) #[] #[nP q])),(7,vI (n:Int)),(8,vI (i.1.length:Int))],mkH [],gz,[]⟩)
  ([],L) ⟨rfl,rfl⟩ (by kernel_rfl)
  (fun h=>gU _ [(0,vL a n cap),(1,norm (.func (.func 204) #[] #[nP q])),(7,vI (n:Int)),(8,vI (([]:List (Th)).length:Int))] [] gz hγ0 h) ?_
 rintro ⟨l1,l2⟩ ⟨hI,hany⟩ ih
 have hI:L=l1++l2:=hI
 have hany:l1.any p=false:=hany
 have hn2:n=l1.length+l2.length:=by rw [hn,hI,List.length_append]
 refine rk ?_
 cases l2 with
 | nil=>
   refine ky (l1.length:Int) (n:Int) (by simp at hn2;omega) ?_
   refine rk ?_
   exact gR (nI (-1)) (fun W hk=>⟨_,rfl,(by rw [hI,List.append_nil,hany];rfl),hk.below⟩)
 | cons x l3=>
   have hin:l1.length<n:=by rw [hn2,List.length_cons];omega
   have hks2:=hks
   rw [hI] at hks2
   obtain ⟨c,hc,hcell⟩:=LsAt.at_ (k:=3) (fun _ _ h=>h.len) hks2
   have hcall:=fun W (hk:Keep (·<w.heap.size) w W)=>hf x (by rw [hI];simp) c W hk (hc.keep hk (kU hk))
   refine kx (l1.length:Int) (n:Int) (by omega) ?_
   refine rk ?_
   refine gI 56 55 cap l1.length hsl hin ?_
   refine rk ?_
   obtain ⟨uname,uloc,uB⟩:=x
   obtain ⟨ua,ucap,uxs,ub,ucap2,uys,rfl,_⟩:=hc
   refine gD 55 3 [nT uname,.slice ua uloc.length ucap,.slice ub uB.length ucap2] l1.length 0 hsl rfl hcell ?_
   refine rk ?_
   cases hp:p (Th.mk uname uloc uB) with
   | true=>
     refine gX [.agg #[nT uname,.slice ua uloc.length ucap,.slice ub uB.length ucap2],nP q] (.bool true) (fun W hk=>by have:=hcall W hk;rw [hp] at this;exact this) ?_
     refine rs [] 60 3 ?_
     exact gR (nI (l1.length:Int)) (fun W hk=>⟨_,rfl,(by rw [hI,List.any_append,List.any_cons,hp,hany,decide_eq_true (by omega)];rfl),hk.below⟩)
   | false=>
     refine gX [.agg #[nT uname,.slice ua uloc.length ucap,.slice ub uB.length ucap2],nP q] (.bool false) (fun W hk=>by have:=hcall W hk;rw [hp] at this;exact this) ?_
     refine rs [] 60 1 ?_
     refine gS 8 (x:=nI (wrapF .i64 ((l1.length:Int)+1))) (nI ((l1++[(Th.mk uname uloc uB)]).length:Nat)) (by rw [wr64 (by omega) (by omega)];congr 1;simp) ?_
     exact gU _ [(0,vL a n cap),(1,norm (.func (.func 204) #[] #[nP q])),(7,vI (n:Int)),(8,vI ((l1++[(Th.mk uname uloc uB)]).length:Int))] [] gz hγ0 (ih (l1++[(Th.mk uname uloc uB)],l3) ⟨by show L=(l1++[_])++l3;rw [hI];simp,by show (l1++[_]).any p=false;rw [List.any_append,hany,List.any_cons,hp];rfl⟩ lS1)
theorem conTh_any (p:Th→Bool) (q:Nat) (L:List (Th)) (a:Option Addr) (n cap:Nat) (xs:List Value) (w:World) (hn:n=L.length) (hbd:n≤1000000000000) (hsl:SlAt (·<w.heap.size) w a n 3 xs) (hks:LsAt (ThAt (·<w.heap.size) w) L xs) (hf:∀ x∈L,∀ cs W,Sy.Keep (·<w.heap.size) w W→ThAt (·<W.heap.size) W x cs→CB 204 #[.agg cs.toArray,nP q] W (.bool (p x))):
  CB 203 #[.slice a n cap,.func (.func 204) #[] #[nP q]] w (.bool (L.any p)):=by
 refine eN [.slice a n cap,.func (.func 204) #[] #[nP q]] Tryz.func203 (fun γ0 hγ0=>?_)
 refine rk ?_
 refine gN [.slice a n cap,.func (.func 204) #[] #[nP q]] (fun v=>∃ i:Int,v=nI i∧L.any p=decide (0≤i)) (fun W hk=>(idxTh_any p q L a n cap xs W hn hbd ((hsl.keep hk).mono (kU hk)) (hks.imp fun x c hc=>hc.keep hk (kU hk)) (fun x hx cs W2 hk2=>hf x hx cs W2 (hk.trans (hk2.mono (kU hk))))).mono fun e w' ⟨i,h1,h2,h3⟩=>⟨_,h1,⟨i,rfl,h2⟩,h3⟩) ?_
 rintro v w2 ⟨i,rfl,hi⟩ hk2
 refine rk ?_
 refine gR (.bool (!(intLt i 0))) (fun W hk=>⟨?_,hk.below⟩)
 rw [hi,intLt_eq]
 by_cases h:0≤i
 · rw [decide_eq_true h,decide_eq_false (by omega)]
   rfl
 · rw [decide_eq_false h,decide_eq_true (by omega)]
   rfl
end
end Go.Proofs.YtinjiigdijbjeaaGreatDoor
