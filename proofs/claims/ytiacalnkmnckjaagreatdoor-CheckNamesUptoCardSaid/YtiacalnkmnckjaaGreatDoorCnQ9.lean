/- Texts of this proof, one behind the other. Conditions: those in each theorem. -/
import Derived.Test.YtiacalnkmnckjaaGreatDoorCnQ8
import Derived.Test.YtiacalnkmnckjaaGreatDoorCnQ1
import Derived.Deep.Slices
import Derived.Handy
import Derived.Test.YtiacalnkmnckjaaGreatDoorCnQ7
import Derived.Test.YtiacalnkmnckjaaGreatDoorCnQ2
set_option linter.unusedVariables false
set_option linter.unusedSimpArgs false
section
namespace Go.Proofs.YtiacalnkmnckjaaGreatDoor
open Go.RowKit Go.As Go.WideShapes Go.ChangeShapes
theorem bulk_pos {H:Type} (d:DataW H):1≤Rows.uptoBulk d:=by
 cases d with
 | lit l=>cases l <;> simp [Rows.uptoBulk]
 | nil=>simp [Rows.uptoBulk]
 | ptr d=>simp [Rows.uptoBulk]
 | slice elems spare=>simp [Rows.uptoBulk]
 | agg parts=>simp [Rows.uptoBulk]
 | iface t d=>simp [Rows.uptoBulk]
 | map entries=>simp [Rows.uptoBulk]
 | held h=>simp [Rows.uptoBulk]
theorem bulk_app {H:Type} (l r:List (DataW H)):Rows.uptoBulkAll (l++r)=Rows.uptoBulkAll l+Rows.uptoBulkAll r:=by
 induction l with
 | nil=>simp [Rows.uptoBulkAll]
 | cons x l ih=>simp only [List.cons_append,Rows.uptoBulkAll,ih];omega
theorem bulk_mem {H:Type} {d:DataW H} {l:List (DataW H)} (h:d∈l):Rows.uptoBulk d≤Rows.uptoBulkAll l:=by
 induction l with
 | nil=>cases h
 | cons x r ih=>
   simp only [Rows.uptoBulkAll]
   cases List.mem_cons.1 h with
   | inl e=>subst e;omega
   | inr e=>have:=ih e;omega
def sumN {α:Type} (μ:α→Nat):List α→Nat
 | []=>0
 | x::l=>μ x+sumN μ l
theorem sumN_app {α:Type} (μ:α→Nat):∀ (l r:List α),sumN μ (l++r)=sumN μ l+sumN μ r
 | [],r=>by simp [sumN]
 | x::l,r=>by
   rw [List.cons_append]
   simp only [sumN]
   rw [sumN_app μ l r]
   omega
theorem wf_u8 {n:Int} (h:(Lit.int .u8 n).wf=true):0≤n∧n<256:=by
 simp only [Lit.wf,decide_eq_true_eq,Bool.and_eq_true] at h
 have h1:IntKind.u8.min=0:=by decide
 have h2:IntKind.u8.max=255:=by decide
 omega
theorem wf_u64 {n:Int} (h:(Lit.int .u64 n).wf=true):0≤n∧n<18446744073709551616:=by
 simp only [Lit.wf,decide_eq_true_eq,Bool.and_eq_true] at h
 have h1:IntKind.u64.min=0:=by decide
 have h2:IntKind.u64.max=18446744073709551615:=by decide
 omega
theorem wf_i64 {n:Int} (h:(Lit.int .i64 n).wf=true) : -9223372036854775808≤n∧n<9223372036854775808:=by
 simp only [Lit.wf,decide_eq_true_eq,Bool.and_eq_true] at h
 have h1:IntKind.i64.min = -9223372036854775808:=by decide
 have h2:IntKind.i64.max=9223372036854775807:=by decide
 omega
section
variable {H:Type} {enc:TypeId×Value→H} {w:World}
theorem open_ls {P:Program} {α:Type} {held:Bool} {t e:TypeId} {fuel sz:Nat} {cs:List Value} {d:DataW H} {p:List MemPlace} (A:α→List Value→Prop) (μ:α→Nat)
  (ht:P.underlying t=some (.slice e)) (hc:P.cellsOf e=sz) (hsz:0<sz)
  (hf:DataW.trod enc P w 0 (fun _=>true) held fuel t cs=some (d,p))
  (hdec:∀ n cs d' p',Rows.uptoBulk d'<Rows.uptoBulk d→cs.length=sz→DataW.trod enc P w 0 (fun _=>true) held n e cs=some (d',p')→∃ x,A x cs∧μ x≤Rows.uptoBulk d'):
  ∃ (a:Option Addr) (n c:Nat) (xs:List Value) (L:List α),cs=[.slice a n c]∧n≤c∧c≤maxLen∧L.length=n∧Sy.SlAt (·<w.heap.size) w a n sz xs∧LsAt A L xs∧sumN μ L+1≤Rows.uptoBulk d:=by
 subst hc
 rcases Go.Deep.open_slice ht hf with ⟨hcs,hx⟩ | ⟨a,len,cap,m,n,D,Pl,hcs,-,hl,hm,hmm,hx,hi⟩
 · injection hx with hd hp
   subst hd
   exact ⟨none,0,0,[],[],hcs,Nat.le_refl _,by simp [maxLen],rfl,⟨by simp,.inl rfl⟩,rfl,by simp [sumN,Rows.uptoBulk]⟩
 · simp only [if_true] at hmm
   subst hmm
   injection hx with hd hp
   have hbd:Rows.uptoBulkAll ((List.range len).map D)+1≤Rows.uptoBulk d:=by
    rw [hd]
    simp only [Rows.uptoBulk]
    omega
   have key:∀ k,k≤len→∃ (xs:List Value) (L:List α),L.length=k∧xs.length=k*P.cellsOf e∧LsAt A L xs∧sumN μ L≤Rows.uptoBulkAll ((List.range k).map D)∧∀ j u,xs[j]?=some u→w.cell? (a.add j)=some u:=by
    intro k
    induction k with
    | zero=>intro _;exact ⟨[],[],rfl,by simp,rfl,by simp [sumN],by simp⟩
    | succ k ih=>
      intro hk
      obtain ⟨xs,L,h1,h2,h3,h4,h5⟩:=ih (by omega)
      obtain ⟨cs',hc1,hc2⟩:=hi k (by omega)
      obtain ⟨-,hcl,hat⟩:=World.cells?_some hc1
      have hlt:Rows.uptoBulk (D k)<Rows.uptoBulk d:=by
       have:=bulk_mem (l:=(List.range len).map D) (d:=D k) (List.mem_map.2 ⟨k,List.mem_range.2 (by omega),rfl⟩)
       omega
      obtain ⟨x,hx1,hx2⟩:=hdec _ _ _ _ hlt hcl hc2
      refine ⟨xs++cs',L++[x],by simp [h1],by rw [List.length_append,h2,hcl,Nat.add_mul];omega,LsAt.snoc h3 hx1,?_,?_⟩
      · rw [List.range_succ,List.map_append,bulk_app,sumN_app]
        simp only [List.map_cons,List.map_nil,Rows.uptoBulkAll,sumN]
        omega
      · intro j u hu
        rcases Nat.lt_or_ge j xs.length with hj | hj
        · rw [List.getElem?_append_left (by omega)] at hu
          exact h5 j u hu
        · rw [List.getElem?_append_right (by omega),h2] at hu
          have hj2:j - k*P.cellsOf e<P.cellsOf e:=by
           have:=(List.getElem?_eq_some_iff.1 hu).1
           omega
          have:=hat _ hj2
          rw [add_add',show k*P.cellsOf e+(j - k*P.cellsOf e)=j by omega] at this
          rw [this,hu]
   obtain ⟨xs,L,h1,h2,h3,h4,h5⟩:=key len (Nat.le_refl _)
   refine ⟨some a,len,_,xs,L,hcs,hl,hm,h1,⟨h2,?_⟩,h3,by omega⟩
   cases len with
   | zero=>exact .inl rfl
   | succ q=>
     have hpos:0<xs.length:=by rw [h2];exact Nat.mul_pos (Nat.succ_pos _) hsz
     have h0:=h5 0 _ (List.getElem?_eq_getElem hpos)
     have hspot:a.spot=none:=by
      have e0:a.add 0=a:=by simp [Addr.add]
      rw [e0] at h0
      unfold World.cell? at h0
      split at h0
      · split at h0
        · cases h0
        · rename_i hn
          cases hs:a.spot with
          | none=>rfl
          | some s=>rw [hs] at hn;simp at hn
      · cases h0
     have ha:a=⟨a.block,a.off,none⟩:=by rw [← hspot]
     refine .inr ⟨congrArg some ha,?_,fun j v hv=>?_⟩
     · have:=World.block_lt_of_cell? w _ h0
       rwa [blk_add] at this
     · have:=h5 j v hv
       rw [ha,Addr.add_mid] at this
       exact this
end
-- sizes: names' letters,and what stands
mutual
def exB:Ex→Nat
 | .mk _ _ _ name kids=>name.length+5+exBs kids
def exBs:List Ex→Nat
 | []=>0
 | e::l=>exB e+exBs l
end
mutual
def exR:Ex→Prop
 | .mk op ty bits _ kids=>(0≤op∧op<256)∧(0≤ty∧ty<256)∧(0≤bits∧bits<18446744073709551616)∧exRs kids
def exRs:List Ex→Prop
 | []=>True
 | e::l=>exR e∧exRs l
end
theorem exRs_mem:∀ {l:List Ex},exRs l↔∀ e∈l,exR e
 | []=>by simp [exRs]
 | e::l=>by simp [exRs,exRs_mem]
theorem exBs_sum:∀ (l:List Ex),exBs l=sumN exB l
 | []=>rfl
 | e::l=>by simp only [exBs,sumN];rw [exBs_sum l]
mutual
theorem wgt_exB:∀ (e:Ex),wgt e≤exB e
 | .mk _ _ _ _ k=>by simp only [wgt,exB];have:=wgts_exBs k;omega
theorem wgts_exBs:∀ (l:List Ex),wgts l≤exBs l
 | []=>Nat.le_refl _
 | e::l=>by simp only [wgts,exBs];have:=wgt_exB e;have:=wgts_exBs l;omega
end
mutual
def stB:St→Nat
 | .mk _ name e b l=>name.length+1+exB e+stBs b+stBs l
def stBs:List St→Nat
 | []=>0
 | s::l=>stB s+stBs l
end
mutual
def stR:St→Prop
 | .mk kind _ e b l=>(-9223372036854775808≤kind∧kind<9223372036854775808)∧exR e∧stRs b∧stRs l
def stRs:List St→Prop
 | []=>True
 | s::l=>stR s∧stRs l
end
theorem stRs_mem:∀ {l:List St},stRs l↔∀ e∈l,stR e
 | []=>by simp [stRs]
 | e::l=>by simp [stRs,stRs_mem]
theorem stBs_sum:∀ (l:List St),stBs l=sumN stB l
 | []=>rfl
 | e::l=>by simp only [stBs,sumN];rw [stBs_sum l]
mutual
theorem swt_stB:∀ (s:St),swt s≤stB s
 | .mk _ _ e b l=>by simp only [swt,stB];have:=wgt_exB e;have:=swts_stBs b;have:=swts_stBs l;omega
theorem swts_stBs:∀ (l:List St),swts l≤stBs l
 | []=>Nat.le_refl _
 | s::l=>by simp only [swts,stBs];have:=swt_stB s;have:=swts_stBs l;omega
end
def vrB (v:Vr):Nat:=v.name.length+1
def vrR (v:Vr):Prop:=(0≤v.ty∧v.ty<256)∧0≤v.bits∧v.bits<18446744073709551616
def txB (s:List UInt8):Nat:=s.length+1
def thB (t:Th):Nat:=t.name.length+1+sumN vrB t.locals+stBs t.body
def thR (t:Th):Prop:=(∀ v∈t.locals,vrR v)∧stRs t.body
def pgB (p:Pg):Nat:=sumN vrB p.shared+sumN txB p.mutexes+sumN thB p.threads
def pgR (p:Pg):Prop:=(∀ v∈p.shared,vrR v)∧∀ t∈p.threads,thR t
theorem len_sumN {α:Type} {μ:α→Nat} (h:∀ x,1≤μ x):∀ (l:List α),l.length≤sumN μ l
 | []=>Nat.le_refl _
 | x::l=>by simp only [sumN,List.length_cons];have:=h x;have:=len_sumN h l;omega
theorem thws_thB:∀ (l:List Th),thws l≤sumN thB l
 | []=>Nat.le_refl _
 | t::l=>by
   simp only [thws,sumN,thw,thB]
   have:=thws_thB l
   have:=len_sumN (μ:=vrB) (fun v=>by unfold vrB;omega) t.locals
   have:=swts_stBs t.body
   omega
theorem pwt_pgB (p:Pg):pwt p≤pgB p:=by
 unfold pwt pgB
 have:=thws_thB p.threads
 have:=len_sumN (μ:=vrB) (fun v=>by unfold vrB;omega) p.shared
 have:=len_sumN (μ:=txB) (fun v=>by unfold txB;omega) p.mutexes
 omega
theorem sumN_mem {α:Type} {μ:α→Nat} {x:α}:∀ {l:List α},x∈l→μ x≤sumN μ l
 | y::l,h=>by
   simp only [sumN]
   rcases List.mem_cons.1 h with rfl | h
   · omega
   · have:=sumN_mem (μ:=μ) h;omega
section
variable {H:Type} {enc:TypeId×Value→H} {w:World} {held:Bool}
theorem list5 {α:Type} {cs:List α} (h:cs.length=5):∃ a b c d e,cs=[a,b,c,d,e]:=by
 match cs,h with
 | [a,b,c,d,e],_=>exact ⟨a,b,c,d,e,rfl⟩
theorem list4 {α:Type} {cs:List α} (h:cs.length=4):∃ a b c d,cs=[a,b,c,d]:=by
 match cs,h with
 | [a,b,c,d],_=>exact ⟨a,b,c,d,rfl⟩
theorem list3 {α:Type} {cs:List α} (h:cs.length=3):∃ a b c,cs=[a,b,c]:=by
 match cs,h with
 | [a,b,c],_=>exact ⟨a,b,c,rfl⟩
theorem list2 {α:Type} {cs:List α} (h:cs.length=2):∃ a b,cs=[a,b]:=by
 match cs,h with
 | [a,b],_=>exact ⟨a,b,rfl⟩
theorem list9 {α:Type} {cs:List α} (h:cs.length=9):∃ a b c d e f g i j,cs=[a,b,c,d,e,f,g,i,j]:=by
 match cs,h with
 | [a,b,c,d,e,f,g,i,j],_=>exact ⟨a,b,c,d,e,f,g,i,j,rfl⟩
set_option maxRecDepth 100000 in
theorem cell1:Tryz.prog.cellsOf 27=1∧Tryz.prog.cellsOf 28=1∧Tryz.prog.cellsOf 29=1∧Tryz.prog.cellsOf 9=1∧Tryz.prog.cellsOf 3=1∧Tryz.prog.cellsOf 32=1∧Tryz.prog.cellsOf 54=1∧Tryz.prog.cellsOf 22=1∧Tryz.prog.cellsOf 23=1∧Tryz.prog.cellsOf 24=1:=by
 refine ⟨?_,?_,?_,?_,?_,?_,?_,?_,?_,?_⟩ <;> kernel_rfl
theorem cell2:Tryz.prog.cellsOf 31=2∧Tryz.prog.cellsOf 34=5∧Tryz.prog.cellsOf 56=9∧Tryz.prog.cellsOf 67=3∧Tryz.prog.cellsOf 58=3∧Tryz.prog.cellsOf 26=3:=by
 refine ⟨?_,?_,?_,?_,?_,?_⟩ <;> kernel_rfl
theorem open_parts {P:Program} {t:TypeId} {fs:Array Field} {fuel:Nat} {cs:List Value} {d:DataW H} {p:List MemPlace} (ht:P.underlying t=some (.struct fs)) (h:DataW.trod enc P w 0 (fun _=>true) held fuel t cs=some (d,p)):
  ∃ (ds:List (DataW H)),Rows.uptoBulk d=Rows.uptoBulkAll ds+1∧ds.length=fs.size∧cs.length=P.cellsOf t∧∀ (i:Nat) (f:Field),fs[i]?=some f→∃ n di q,ds[i]?=some di∧DataW.trod enc P w 0 (fun _=>true) held n f.type ((cs.drop f.offset).take (P.cellsOf f.type))=some (di,q):=by
 obtain ⟨xs,n,-,hx,hl,hlen,hfs⟩:=DataW.trod_struct ht h
 injection hx with h1 h2
 refine ⟨xs.map (·.1),by rw [h1];simp [Rows.uptoBulk],by simp [hlen],hl,fun i f hf=>?_⟩
 have:=hfs i f hf
 have hi:i<xs.length:=by rw [hlen];exact (Array.getElem?_eq_some_iff.1 hf).1
 rw [List.getElem?_eq_getElem hi] at this
 exact ⟨n,xs[i].1,xs[i].2,by simp [List.getElem?_eq_getElem hi],this⟩
theorem LsAt.both {α:Type} {A:α→List Value→Prop} {R:α→Prop}:∀ {l:List α} {xs:List Value},LsAt (fun x c=>A x c∧R x) l xs→LsAt A l xs∧∀ x∈l,R x
 | [],xs,h=>⟨h,fun x hx=>by cases hx⟩
 | e::l,xs,⟨c,r,h1,h2,h3⟩=>by
   obtain ⟨h4,h5⟩:=LsAt.both h3
   exact ⟨⟨c,r,h1,h2.1,h4⟩,fun x hx=>by
    rcases List.mem_cons.1 hx with rfl | hx
    · exact h2.2
    · exact h5 x hx⟩
set_option maxRecDepth 100000 in
theorem val_open {n:Nat} {cs:List Value} {d:DataW H} {p:List MemPlace} (h:DataW.trod enc Tryz.prog w 0 (fun _=>true) held n 31 cs=some (d,p)):
  ∃ ty bits,cs=[.int .u8 ty,.int .u64 bits]∧(0≤ty∧ty<256)∧(0≤bits∧bits<18446744073709551616)∧Rows.uptoBulk d=3:=by
 obtain ⟨ds,hb,hl,hcl,hf⟩:=open_parts Tryz.underlying31 h
 obtain ⟨c0,c1,rfl⟩:=list2 (hcl.trans cell2.1)
 obtain ⟨n0,d0,q0,e0,h0⟩:=hf 0 _ rfl
 obtain ⟨n1,d1,q1,e1,h1⟩:=hf 1 _ rfl
 obtain ⟨x0,x1,rfl⟩:=list2 (hl.trans rfl)
 simp only [List.getElem?_cons_zero,List.getElem?_cons_succ,Option.some.injEq] at e0 e1
 subst e0 e1
 have h0:DataW.trod enc Tryz.prog w 0 (fun _=>true) held n0 28 [c0]=some (x0,q0):=by simpa [cell1.2.1] using h0
 have h1:DataW.trod enc Tryz.prog w 0 (fun _=>true) held n1 29 [c1]=some (x1,q1):=by simpa [cell1.2.2.1] using h1
 obtain ⟨ty,g1,g2,g3⟩:=DataW.trod_int Tryz.underlying28 h0
 obtain ⟨bits,k1,k2,k3⟩:=DataW.trod_int Tryz.underlying29 h1
 injection g1 with g1;injection k1 with k1;injection g2 with g2;injection k2 with k2
 subst g1 k1 g2 k2
 exact ⟨ty,bits,rfl,wf_u8 g3,wf_u64 k3,by rw [hb];simp [Rows.uptoBulkAll,Rows.uptoBulk]⟩
theorem str_open {n:Nat} {cs:List Value} {d:DataW H} {p:List MemPlace} (h:DataW.trod enc Tryz.prog w 0 (fun _=>true) held n 9 cs=some (d,p)):
  ∃ l:List UInt8,cs=[.string (str l)]∧Rows.uptoBulk d=l.length+1:=by
 obtain ⟨s,h1,h2,h3⟩:=DataW.trod_string Tryz.underlying9 h
 obtain ⟨l,rfl⟩:=exists_str s
 injection h2 with h2
 exact ⟨l,h1,by rw [h2];simp [Rows.uptoBulk,str_data]⟩
set_option maxRecDepth 100000 in
theorem ex_open:∀ (b:Nat) {n:Nat} {cs:List Value} {d:DataW H} {p:List MemPlace},Rows.uptoBulk d<b→DataW.trod enc Tryz.prog w 0 (fun _=>true) held n 34 cs=some (d,p)→
  ∃ e,ExAt (·<w.heap.size) w e cs∧exR e∧exB e≤Rows.uptoBulk d:=by
 intro b
 induction b with
 | zero=>intro n cs d p h;omega
 | succ b ih=>
   intro n cs d p hbd h
   obtain ⟨ds,hb,hl,hcl,hf⟩:=open_parts Tryz.underlying34 h
   obtain ⟨c0,c1,c2,c3,c4,rfl⟩:=list5 (hcl.trans cell2.2.1)
   obtain ⟨n0,d0,q0,e0,h0⟩:=hf 0 _ rfl
   obtain ⟨n1,d1,q1,e1,h1⟩:=hf 1 _ rfl
   obtain ⟨n2,d2,q2,e2,h2⟩:=hf 2 _ rfl
   obtain ⟨n3,d3,q3,e3,h3⟩:=hf 3 _ rfl
   obtain ⟨x0,x1,x2,x3,rfl⟩:=list4 (hl.trans rfl)
   simp only [List.getElem?_cons_zero,List.getElem?_cons_succ,Option.some.injEq] at e0 e1 e2 e3
   subst e0 e1 e2 e3
   have h0:DataW.trod enc Tryz.prog w 0 (fun _=>true) held n0 27 [c0]=some (x0,q0):=by simpa [cell1.1] using h0
   have h1:DataW.trod enc Tryz.prog w 0 (fun _=>true) held n1 31 [c1,c2]=some (x1,q1):=by simpa [cell2.1] using h1
   have h2:DataW.trod enc Tryz.prog w 0 (fun _=>true) held n2 9 [c3]=some (x2,q2):=by simpa [cell1.2.2.2.1] using h2
   have h3:DataW.trod enc Tryz.prog w 0 (fun _=>true) held n3 32 [c4]=some (x3,q3):=by simpa [cell1.2.2.2.2.2.1] using h3
   obtain ⟨op,g1,g2,g3⟩:=DataW.trod_int Tryz.underlying27 h0
   obtain ⟨ty,bits,k1,k2,k3,k4⟩:=val_open h1
   obtain ⟨name,m1,m2⟩:=str_open h2
   simp only [Rows.uptoBulkAll] at hb
   obtain ⟨a,n',c,xs,L,o1,o2,o3,o4,o5,o6,o7⟩:=open_ls (fun e c=>ExAt (·<w.heap.size) w e c∧exR e) exB Tryz.underlying32 cell2.2.1 (by omega) h3 (fun n cs d' p' hlt hl5 ht=>by
    obtain ⟨e,w1,w2,w3⟩:=ih (by omega) ht
    exact ⟨e,⟨w1,w2⟩,w3⟩)
   obtain ⟨o8,o9⟩:=o6.both
   injection g2 with g2
   simp only [List.cons.injEq,and_true] at g1 k1 m1 o1
   obtain ⟨k5,k6⟩:=k1
   subst g1 g2 k5 k6 m1 o1 o4
   refine ⟨.mk op ty bits name L,?_,?_,?_⟩
   · simp only [ExAt]
     exact ⟨a,c,xs,rfl,o5,ExsAt_ls.2 o8⟩
   · simp only [exR]
     exact ⟨wf_u8 g3,k2,k3,exRs_mem.2 o9⟩
   · simp only [exB]
     rw [exBs_sum,hb,m2,k4]
     have:=bulk_pos x3
     simp only [Rows.uptoBulk]
     omega
set_option maxRecDepth 100000 in
theorem vr_open {n:Nat} {cs:List Value} {d:DataW H} {p:List MemPlace} (h:DataW.trod enc Tryz.prog w 0 (fun _=>true) held n 67 cs=some (d,p)):
  ∃ v,(VrAt v cs∧vrR v)∧vrB v≤Rows.uptoBulk d:=by
 obtain ⟨ds,hb,hl,hcl,hf⟩:=open_parts Tryz.underlying67 h
 obtain ⟨c0,c1,c2,rfl⟩:=list3 (hcl.trans cell2.2.2.2.1)
 obtain ⟨n0,d0,q0,e0,h0⟩:=hf 0 _ rfl
 obtain ⟨n1,d1,q1,e1,h1⟩:=hf 1 _ rfl
 obtain ⟨x0,x1,rfl⟩:=list2 (hl.trans rfl)
 simp only [List.getElem?_cons_zero,List.getElem?_cons_succ,Option.some.injEq] at e0 e1
 subst e0 e1
 have h0:DataW.trod enc Tryz.prog w 0 (fun _=>true) held n0 9 [c0]=some (x0,q0):=by simpa [cell1.2.2.2.1] using h0
 have h1:DataW.trod enc Tryz.prog w 0 (fun _=>true) held n1 31 [c1,c2]=some (x1,q1):=by simpa [cell2.1] using h1
 obtain ⟨ty,bits,k1,k2,k3,k4⟩:=val_open h1
 obtain ⟨name,m1,m2⟩:=str_open h0
 simp only [Rows.uptoBulkAll] at hb
 simp only [List.cons.injEq,and_true] at k1 m1
 obtain ⟨k5,k6⟩:=k1
 subst k5 k6 m1
 exact ⟨⟨name,ty,bits⟩,⟨rfl,k2,k3⟩,by unfold vrB;simp only;omega⟩
set_option maxRecDepth 100000 in
theorem st_open:∀ (b:Nat) {n:Nat} {cs:List Value} {d:DataW H} {p:List MemPlace},Rows.uptoBulk d<b→DataW.trod enc Tryz.prog w 0 (fun _=>true) held n 56 cs=some (d,p)→
  ∃ e,StAt (·<w.heap.size) w e cs∧stR e∧stB e≤Rows.uptoBulk d:=by
 intro b
 induction b with
 | zero=>intro n cs d p h;omega
 | succ b ih=>
   intro n cs d p hbd h
   obtain ⟨ds,hb,hl,hcl,hf⟩:=open_parts Tryz.underlying56 h
   obtain ⟨c0,c1,c2,c3,c4,c5,c6,c7,c8,rfl⟩:=list9 (hcl.trans cell2.2.2.1)
   obtain ⟨n0,d0,q0,e0,h0⟩:=hf 0 _ rfl
   obtain ⟨n1,d1,q1,e1,h1⟩:=hf 1 _ rfl
   obtain ⟨n2,d2,q2,e2,h2⟩:=hf 2 _ rfl
   obtain ⟨n3,d3,q3,e3,h3⟩:=hf 3 _ rfl
   obtain ⟨n4,d4,q4,e4,h4⟩:=hf 4 _ rfl
   obtain ⟨x0,x1,x2,x3,x4,rfl⟩:=list5 (hl.trans rfl)
   simp only [List.getElem?_cons_zero,List.getElem?_cons_succ,Option.some.injEq] at e0 e1 e2 e3 e4
   subst e0 e1 e2 e3 e4
   have h0:DataW.trod enc Tryz.prog w 0 (fun _=>true) held n0 3 [c0]=some (x0,q0):=by simpa [cell1.2.2.2.2.1] using h0
   have h1:DataW.trod enc Tryz.prog w 0 (fun _=>true) held n1 9 [c1]=some (x1,q1):=by simpa [cell1.2.2.2.1] using h1
   have h2:DataW.trod enc Tryz.prog w 0 (fun _=>true) held n2 34 [c2,c3,c4,c5,c6]=some (x2,q2):=by simpa [cell2.2.1] using h2
   have h3:DataW.trod enc Tryz.prog w 0 (fun _=>true) held n3 54 [c7]=some (x3,q3):=by simpa [cell1.2.2.2.2.2.2.1] using h3
   have h4:DataW.trod enc Tryz.prog w 0 (fun _=>true) held n4 54 [c8]=some (x4,q4):=by simpa [cell1.2.2.2.2.2.2.1] using h4
   obtain ⟨kind,g1,g2,g3⟩:=DataW.trod_int Tryz.underlying3 h0
   obtain ⟨name,m1,m2⟩:=str_open h1
   obtain ⟨e,k1,k2,k3⟩:=ex_open _ (Nat.lt_succ_self _) h2
   simp only [Rows.uptoBulkAll] at hb
   obtain ⟨a,n',c,xs,L,o1,o2,o3,o4,o5,o6,o7⟩:=open_ls (fun e c=>StAt (·<w.heap.size) w e c∧stR e) stB Tryz.underlying54 cell2.2.2.1 (by omega) h3 (fun n cs d' p' hlt hl5 ht=>by
    obtain ⟨e,w1,w2,w3⟩:=ih (by omega) ht
    exact ⟨e,⟨w1,w2⟩,w3⟩)
   obtain ⟨o8,o9⟩:=o6.both
   obtain ⟨a',n2',c',xs',L',r1,r2,r3,r4,r5,r6,r7⟩:=open_ls (fun e c=>StAt (·<w.heap.size) w e c∧stR e) stB Tryz.underlying54 cell2.2.2.1 (by omega) h4 (fun n cs d' p' hlt hl5 ht=>by
    obtain ⟨e,w1,w2,w3⟩:=ih (by omega) ht
    exact ⟨e,⟨w1,w2⟩,w3⟩)
   obtain ⟨r8,r9⟩:=r6.both
   injection g2 with g2
   simp only [List.cons.injEq,and_true] at g1 m1 o1 r1
   subst g1 g2 m1 o1 o4 r1 r4
   refine ⟨.mk kind name e L L',?_,?_,?_⟩
   · simp only [StAt]
     exact ⟨[c2,c3,c4,c5,c6],a,c,xs,a',c',xs',rfl,k1,o5,StsAt_ls.2 o8,r5,StsAt_ls.2 r8⟩
   · simp only [stR]
     exact ⟨wf_i64 g3,k2,stRs_mem.2 o9,stRs_mem.2 r9⟩
   · simp only [stB]
     rw [stBs_sum,stBs_sum,hb,m2]
     simp only [Rows.uptoBulk]
     omega
set_option maxRecDepth 100000 in
theorem th_open {n:Nat} {cs:List Value} {d:DataW H} {p:List MemPlace} (h:DataW.trod enc Tryz.prog w 0 (fun _=>true) held n 58 cs=some (d,p)):
  ∃ v,(ThAt (·<w.heap.size) w v cs∧thR v)∧thB v≤Rows.uptoBulk d:=by
 obtain ⟨ds,hb,hl,hcl,hf⟩:=open_parts Tryz.underlying58 h
 obtain ⟨c0,c1,c2,rfl⟩:=list3 (hcl.trans cell2.2.2.2.2.1)
 obtain ⟨n0,d0,q0,e0,h0⟩:=hf 0 _ rfl
 obtain ⟨n1,d1,q1,e1,h1⟩:=hf 1 _ rfl
 obtain ⟨n2,d2,q2,e2,h2⟩:=hf 2 _ rfl
 obtain ⟨x0,x1,x2,rfl⟩:=list3 (hl.trans rfl)
 simp only [List.getElem?_cons_zero,List.getElem?_cons_succ,Option.some.injEq] at e0 e1 e2
 subst e0 e1 e2
 have h0:DataW.trod enc Tryz.prog w 0 (fun _=>true) held n0 9 [c0]=some (x0,q0):=by simpa [cell1.2.2.2.1] using h0
 have h1:DataW.trod enc Tryz.prog w 0 (fun _=>true) held n1 22 [c1]=some (x1,q1):=by simpa [cell1.2.2.2.2.2.2.2.1] using h1
 have h2:DataW.trod enc Tryz.prog w 0 (fun _=>true) held n2 54 [c2]=some (x2,q2):=by simpa [cell1.2.2.2.2.2.2.1] using h2
 obtain ⟨name,m1,m2⟩:=str_open h0
 simp only [Rows.uptoBulkAll] at hb
 obtain ⟨a,n',c,xs,L,o1,o2,o3,o4,o5,o6,o7⟩:=open_ls (fun e c=>VrAt e c∧vrR e) vrB Tryz.underlying22 cell2.2.2.2.1 (by omega) h1 (fun n cs d' p' hlt hl5 ht=>vr_open ht)
 obtain ⟨o8,o9⟩:=o6.both
 obtain ⟨a',n2',c',xs',L',r1,r2,r3,r4,r5,r6,r7⟩:=open_ls (fun e c=>StAt (·<w.heap.size) w e c∧stR e) stB Tryz.underlying54 cell2.2.2.1 (by omega) h2 (fun n cs d' p' hlt hl5 ht=>by
  obtain ⟨e,w1,w2,w3⟩:=st_open _ (Nat.lt_succ_self _) ht
  exact ⟨e,⟨w1,w2⟩,w3⟩)
 obtain ⟨r8,r9⟩:=r6.both
 simp only [List.cons.injEq,and_true] at m1 o1 r1
 subst m1 o1 o4 r1 r4
 exact ⟨⟨name,L,L'⟩,⟨⟨a,c,xs,a',c',xs',rfl,o5,o8,r5,StsAt_ls.2 r8⟩,o9,stRs_mem.2 r9⟩,by unfold thB;simp only;rw [stBs_sum];omega⟩
set_option maxRecDepth 100000 in
theorem pg_open {n:Nat} {cs:List Value} {d:DataW H} {p:List MemPlace} (h:DataW.trod enc Tryz.prog w 0 (fun _=>true) held n 26 cs=some (d,p)):
  ∃ v,(PgAt (·<w.heap.size) w v cs∧pgR v)∧pgB v≤Rows.uptoBulk d:=by
 obtain ⟨ds,hb,hl,hcl,hf⟩:=open_parts Tryz.underlying26 h
 obtain ⟨c0,c1,c2,rfl⟩:=list3 (hcl.trans cell2.2.2.2.2.2)
 obtain ⟨n0,d0,q0,e0,h0⟩:=hf 0 _ rfl
 obtain ⟨n1,d1,q1,e1,h1⟩:=hf 1 _ rfl
 obtain ⟨n2,d2,q2,e2,h2⟩:=hf 2 _ rfl
 obtain ⟨x0,x1,x2,rfl⟩:=list3 (hl.trans rfl)
 simp only [List.getElem?_cons_zero,List.getElem?_cons_succ,Option.some.injEq] at e0 e1 e2
 subst e0 e1 e2
 have h0:DataW.trod enc Tryz.prog w 0 (fun _=>true) held n0 22 [c0]=some (x0,q0):=by simpa [cell1.2.2.2.2.2.2.2.1] using h0
 have h1:DataW.trod enc Tryz.prog w 0 (fun _=>true) held n1 23 [c1]=some (x1,q1):=by simpa [cell1.2.2.2.2.2.2.2.2.1] using h1
 have h2:DataW.trod enc Tryz.prog w 0 (fun _=>true) held n2 24 [c2]=some (x2,q2):=by simpa [cell1.2.2.2.2.2.2.2.2.2] using h2
 simp only [Rows.uptoBulkAll] at hb
 obtain ⟨a,n',c,xs,L,o1,o2,o3,o4,o5,o6,o7⟩:=open_ls (fun e c=>VrAt e c∧vrR e) vrB Tryz.underlying22 cell2.2.2.2.1 (by omega) h0 (fun n cs d' p' hlt hl5 ht=>vr_open ht)
 obtain ⟨o8,o9⟩:=o6.both
 obtain ⟨a',n2',c',xs',L',r1,r2,r3,r4,r5,r6,r7⟩:=open_ls TxAt txB Tryz.underlying23 cell1.2.2.2.1 (by omega) h1 (fun n cs d' p' hlt hl5 ht=>by
  obtain ⟨l,g1,g2⟩:=str_open ht
  exact ⟨l,g1,by unfold txB;omega⟩)
 obtain ⟨a3,n3',c3,xs3,L3,s1,s2,s3,s4,s5,s6,s7⟩:=open_ls (fun e c=>ThAt (·<w.heap.size) w e c∧thR e) thB Tryz.underlying24 cell2.2.2.2.2.1 (by omega) h2 (fun n cs d' p' hlt hl5 ht=>th_open ht)
 obtain ⟨s8,s9⟩:=s6.both
 simp only [List.cons.injEq,and_true] at o1 r1 s1
 subst o1 o4 r1 r4 s1 s4
 exact ⟨⟨L,L',L3⟩,⟨⟨a,c,xs,a',c',xs',a3,c3,xs3,rfl,o5,o8,r5,r6,s5,s8⟩,o9,s9⟩,by unfold pgB;simp only;omega⟩
end
end Go.Proofs.YtiacalnkmnckjaaGreatDoor
end
namespace Go.Proofs.YtiacalnkmnckjaaGreatDoor
open Go.RowKit Go.As
section
def evTab:List Nat:=[1,10,100,1000,10000,100000,1000000,10000000,100000000,1000000000,10000000000,100000000000,1000000000000,10000000000000,100000000000000,1000000000000000,10000000000000000,100000000000000000,1000000000000000000,10000000000000000000]
theorem tab_at {w:World} (h:Tab w):Sy.TabAt 1 evTab w:=by
 unfold Tab Lib.TabIs World.var? at h
 have hg:Tryz.prog.globalNamed "internal/strconv.uint64pow10" = some 1:=by kernel_rfl
 simp only [hg,Option.bind_some] at h
 have e:(Lib.pow10Tab.map fun z=>Value.int .u64 z).toArray=(evTab.map fun (n:Nat)=>Value.int .u64 (n:Int)).toArray:=by kernel_rfl
 rw [e] at h
 split at h
 · rename_i cs ty fz hh
   injection h with h
   subst h
   exact ⟨ty,fz,hh⟩
 · cases h
def syIT:Sy.Aux:=⟨evId,fun _ _=>none,Tab⟩
theorem sy_fineT:Sy.Fine Tryz.prog syIT:=Sy.fine_of evId_ok (fun f args av h=>by cases h) (fun w w' h hb=>h.below hb) (by kernel_rfl)
theorem sy_glob:1<Tryz.prog.globals.size:=of_decide_eq_true (by kernel_rfl)
end
section
theorem ld_box {P:Program} {F:Nat→Prop} {w:World} {k n:Nat} {ty:TypeId} {cs:List Value} (h:Sy.SlAt F w (some ⟨k,0,none⟩) 1 n cs) (hb:Sy.aggB P ty=some true) (hs:Sy.szB P ty=some n) {W:World} (hk:Sy.Keep F w W):
  (Instr.loadAt ty (.pointer (some ⟨k,0,none⟩))).run P W = .ok (.agg cs.toArray) W:=by
 have:=Sy.load_slA h hb hs 0 0 (cs:=cs) (by have:=h.len;omega) (fun j v hv=>by simpa using hv) hk
 simpa [Sy.gB,Sy.oB] using this
theorem box_sl {F:Nat→Prop} {w:World} {k ty n:Nat} {vals:List Value} (h:w.heap[k]?=some (.cells vals.toArray ty (0,0))) (hF:F k) (hn:vals.length=n):Sy.SlAt F w (some ⟨k,0,none⟩) 1 n vals:=
 ⟨by omega,.inr ⟨rfl,hF,fun j v hv=>by
  simp only [World.cell?,Sy.gB,Sy.oB,Nat.zero_add]
  rw [h]
  simpa using hv⟩⟩
def seqR:Code→Code
 | .seq _ b=>b
 | c=>c
end
section
def DoR (ko:Nat) (ti:Int) (ft:Int) (num:Nat) (W:World) (e:Ending) (w':World):Prop:=
 (ft=0∧e = .returned (.bool true)∧Below W.heap.size W w')∨(ft≠0∧e = .returned (.bool false)∧Sy.Keep (fun k=>k<W.heap.size∧¬ k=ko) W w'∧w'.heap[ko]?=some (.cells [.int .i64 ft,.int .i64 ti,.int .i64 (num:Int)].toArray 80 (0,0)))
def SpotAt (ko:Nat) (W:World):Prop:=ko<W.heap.size∧∃ oc:Array Value,W.heap[ko]?=some (.cells oc 80 (0,0))∧oc.size=3
def DoC (F:Nat→Prop) (w0:World) (kf kt ko:Nat) (ti:Int) (ft:St→Nat→Int) (L:List (St×Nat)):Prop:=
 ∀ s d,(s,d)∈L→∀ (num:Nat) (c:List Value) (W:World),StAt F w0 s c→Sy.Keep F w0 W→(∀ k,F k→k<W.heap.size)→SpotAt ko W→
   Calls Tryz.prog 217 #[.agg c.toArray,.int .i64 (num:Int),.int .i64 (d:Int),.pointer (some ⟨kf,0,none⟩),.pointer (some ⟨kt,0,none⟩),.pointer (some ⟨ko,0,none⟩)] W (DoR ko ti (ft s d) num W)
theorem DoC.sub {F:Nat→Prop} {w0:World} {kf kt ko:Nat} {ti:Int} {ft:St→Nat→Int} {L L':List (St×Nat)} (h:DoC F w0 kf kt ko ti ft L) (hL:∀ x∈L',x∈L):DoC F w0 kf kt ko ti ft L':=fun s d hs=>h s d (hL _ hs)
def CntAt (kn:Nat) (m:Nat) (W:World):Prop:=W.heap[kn]?=some (.cells [.int .i64 (m:Int)].toArray 3 (0,0))
structure NuI (F:Nat→Prop) (W:World) (kn m:Nat) (B:Nat→Prop) (w1:World):Prop where
 keep:Sy.Keep (fun k=>k<W.heap.size∧¬ k=kn) W w1
 old:∀ k,k<W.heap.size→B k
 lt:∀ k,B k→k<w1.heap.size
 cnt:CntAt kn m w1
theorem NuI.base {F:Nat→Prop} {w0 W:World} {kn m:Nat} {B:Nat→Prop} {w1:World} (h:NuI F W kn m B w1) (h0:Sy.Keep F w0 W) (hF:∀ k,F k→k<W.heap.size) (hn:¬ F kn):Sy.Keep F w0 w1:=
 h0.trans (h.keep.mono fun k hk=>⟨hF k hk,fun e=>hn (e ▸ hk)⟩)
theorem NuI.spot {F:Nat→Prop} {W:World} {kn ko m:Nat} {B:Nat→Prop} {w1:World} (h:NuI F W kn m B w1) (hs:SpotAt ko W) (hno:¬ ko=kn):SpotAt ko w1:=by
 obtain ⟨h1,oc,h2,h3⟩:=hs
 exact ⟨Nat.lt_of_lt_of_le h1 h.keep.size,oc,(h.keep.block ko ⟨h1,hno⟩).trans h2,h3⟩
theorem spot_keep {ko:Nat} {W V:World} (h:SpotAt ko W) (hk:Sy.Keep (·=ko) W V):SpotAt ko V:=by
 obtain ⟨h1,oc,h2,h3⟩:=h
 exact ⟨Nat.lt_of_lt_of_le h1 hk.size,oc,(hk.block ko rfl).trans h2,h3⟩
open Go.Sy in
set_option maxRecDepth 100000 in
theorem cnumbered_any (F:Nat→Prop) (w0:World) (kf kt kn ko:Nat) (ti:Int) (ft:St→Nat→Int) (hnn:¬ F kn) (hnko:¬ ko=kn):∀ (N:Nat),∀ (L:List St) (a:Option Addr) (n cap:Nat) (xs:List Value) (deep m:Nat) (W:World),n=L.length→swts L<N→swts L+deep≤1000000000000→m+swts L≤1000000000000→SlAt F w0 a n 9 xs→StsAt F w0 L xs→DoC F w0 kf kt ko ti ft (flatL deep L)→
   Keep F w0 W→(∀ k,F k→k<W.heap.size)→kn<W.heap.size→CntAt kn m W→SpotAt ko W→
   Calls Tryz.prog 216 #[.slice a n cap,nI (deep:Int),nP kn,.func (.func 217) #[] #[nP kf,nP kt,nP ko]] W fun e w'=>
    (firstIx ft (flatL deep L) m=none∧e = .returned (.bool true)∧CntAt kn (m+(flatL deep L).length) w'∧Keep (fun k=>k<W.heap.size∧¬ k=kn) W w')∨
    (∃ er j,firstIx ft (flatL deep L) m=some (er,j)∧e = .returned (.bool false)∧w'.heap[ko]?=some (.cells [nI er,nI ti,nI (j:Int)].toArray 80 (0,0))∧Keep (fun k=>k<W.heap.size∧¬ (k=kn∨k=ko)) W w'):=by
 intro N
 induction N with
 | zero=>intro L a n cap xs deep m W hn h;omega
 | succ N ihN=>
   intro L a n cap xs deep m W hn hNN hbd hbm hsl hks hdo hKW hFW hkn hcnt hspot
   have hko:=hspot.1
   have hnl:=swts_len L
   refine eN [.slice a n cap,nI (deep:Int),nP kn,.func (.func 217) #[] #[nP kf,nP kt,nP ko]] Tryz.func216 (fun γ0 hγ0=>?_)
   refine rk ?_
   refine good_toLp ?_
   have hI0:NuI F W kn m (·<W.heap.size) W:=⟨Keep.refl _ _,fun k h=>h,fun k h=>h,hcnt⟩
   refine good_loopB (fun i:List St×List St=>i.2.length) (fun i B w1=>L=i.1++i.2∧firstIx ft (flatL deep i.1) m=none∧NuI F W kn (m+(flatL deep i.1).length) B w1) (fun i=>⟨mkT [(1,vI (deep:Int)),(2,vP kn),(3,.fn (.func 217) [] [vP kf,vP kt,vP ko]),(12,vL a n cap),(13,vI (n:Int)),(14,vI (i.1.length:Int))],mkH [],gz,[]⟩) ([],L) ⟨rfl,rfl,hI0⟩ (by kernel_rfl)
    (fun h=>gU _ [(1,vI (deep:Int)),(2,vP kn),(3,.fn (.func 217) [] [vP kf,vP kt,vP ko]),(12,vL a n cap),(13,vI (n:Int)),(14,vI (([]:List St).length:Int))] [] gz hγ0 h) ?_
   clear hI0
   rintro ⟨l1,l2⟩ Bc wc ⟨hsp,hnone,hN0⟩ ih
   have hsp:L=l1++l2:=hsp
   have hnone:firstIx ft (flatL deep l1) m=none:=hnone
   have hn2:n=l1.length+l2.length:=by rw [hn,hsp,List.length_append]
   have hN:NuI F W kn (m+(flatL deep l1).length) Bc wc:=hN0
   clear hN0
   have hKc:=hN.base hKW hFW hnn
   have hFB:∀ k,F k→Bc k:=fun k h=>hN.old k (hFW k h)
   have hsl0:=(hsl.keep hKc).mono hFB
   have hw1:swts L=swts l1+swts l2:=by rw [hsp,swts_app]
   obtain ⟨m1,hm1⟩:∃ m1,m1=m+(flatL deep l1).length:=⟨_,rfl⟩
   have hml:=flatL_len deep l1
   rw [← hm1] at hN
   refine rk ?_
   cases l2 with
   | nil=>
     have hn3:n=l1.length:=by rw [hn2];simp
     have hl1:l1=L:=by rw [hsp];simp
     subst hl1
     refine ky (l1.length:Int) (n:Int) (by omega) ?_
     refine rs [] 60 2 ?_
     exact gR (.bool true) (fun V hk => .inl ⟨hnone,rfl,by unfold CntAt;rw [hk.block kn (hN.old kn hkn),← hm1];exact hN.cnt,hN.keep.trans (hk.mono fun k h=>hN.old k h.1)⟩)
   | cons s l3=>
     have hin:l1.length<n:=by rw [hn2,List.length_cons];omega
     have hks2:=hks
     rw [hsp] at hks2
     obtain ⟨c,hc,hcell⟩:=hks2.at_
     have hfl:flatL deep L=flatL deep l1++(flatS deep s++flatL deep l3):=by rw [hsp,flatL_app];rfl
     simp only [swts] at hw1
     have hst:=hc
     obtain ⟨uK,us,⟨uo,ut,uv,un,uk⟩,uB,uL⟩:=s
     simp only [StAt] at hc
     obtain ⟨ucs,uj,uh,ubx,ui,uw,ulx,rfl,uhe,uhbs,uhbt,uhls,uhlt⟩:=hc
     have uhe0:=uhe
     simp only [ExAt] at uhe0
     obtain ⟨uf,ug,uex,rfl,_⟩:=uhe0
     have hcell:∀ j v,((yL uK us uo ut uv un uf uk.length ug uj uB.length uh ui uL.length uw):List Value)[j]?=some v→xs[l1.length*9+j]?=some v:=hcell
     have umid:∀ j v,((xL uo ut uv un uf uk.length ug):List Value)[j]?=some v→xs[l1.length*9+2+j]?=some v:=cell_part hcell 2 (mid_get [_,_] (xL uo ut uv un uf uk.length ug) [_,_])
     simp only [swt] at hw1
     have hmB:=flatL_len (deep+1) uB
     have hmE:=flatL_len (deep+1) uL
     refine kx (l1.length:Int) (n:Int) (by omega) ?_
     refine rk ?_
     refine gI 54 56 cap l1.length hsl0 hin ?_
     refine rk ?_
     refine gD 56 9 (yL uK us uo ut uv un uf uk.length ug uj uB.length uh ui uL.length uw) l1.length 0 hsl0 rfl hcell ?_
     refine rk ?_
     have hbn:=box_sl hN.cnt (F:=Bc) (hN.old kn hkn) rfl
     refine gL 3 (nI (m1:Int)) 0 0 hbn rfl ?_
     refine rk ?_
     refine gL 3 (nI (m1:Int)) 0 0 hbn rfl ?_
     refine rk ?_
     refine gS 24 (x:=nI (wrapF .i64 ((m1:Int)+1))) (nI (((m1+1:Nat):Int))) (by rw [wr64 (n:=(m1:Int)+1) (by omega) (by omega)];rfl) ?_
     refine good_storeC 3 (nP kn) (nI ((m1+1:Nat):Int)) (ay:=vI ((m1+1:Nat):Int)) (·=kn) (by kernel_rfl) (by kernel_rfl) (by kernel_rfl) (fun k hk=>hk ▸ hN.old kn hkn) (fun V hk=>let ⟨w',h1,h2,h3⟩:=store_whole (P:=Tryz.prog) (n:=1) (by kernel_rfl) (b:=kn) ((hk.block kn (hN.old kn hkn)).trans hN.cnt) rfl [nI ((m1+1:Nat):Int)] rfl rfl (by simp [Value.oneCell']);⟨w',h1,h2,h3⟩) ?_
     intro wa wb Bd hka hst2 hkk hkF hBd hBd'
     have hN2:NuI F W kn (m1+1) Bd wb:=⟨hN.keep.trans (hkF.mono fun k h=>⟨hN.old k h.1,h.2⟩),fun k h=>hBd k (hN.old k h),hBd',hst2⟩
     clear hkF hkk hst2 hbn hsl0 hka
     have hKb:=hN2.base hKW hFW hnn
     have hFB2:∀ k,F k→Bd k:=fun k h=>hN2.old k (hFW k h)
     refine rs [30] 60 0 ?_
     refine good_callWN (cx:=sy_cx _ _) [yV uK us uo ut uv un uf uk.length ug uj uB.length uh ui uL.length uw,nI (m1:Int),nI (deep:Int),nP kf,nP kt,nP ko] (·=ko) (Pr:=fun V r w'=>DoR ko ti (ft (St.mk uK us (Ex.mk uo ut uv un uk) uB uL) deep) m1 V (.returned r) w') (by kernel_rfl) (by kernel_rfl) (by kernel_rfl) (fun k hk=>hk ▸ hN2.old ko hko) (fun V hk=>(hdo (St.mk uK us (Ex.mk uo ut uv un uk) uB uL) deep (by rw [hfl];exact List.mem_append_right _ (List.mem_append_left _ (by simp only [flatS];exact List.mem_cons_self))) m1 (yL uK us uo ut uv un uf uk.length ug uj uB.length uh ui uL.length uw) V hst (hKb.trans (hk.mono hFB2)) (fun k h=>Nat.lt_of_lt_of_le (hN2.lt k (hFB2 k h)) hk.size) (spot_keep (hN2.spot hspot hnko) (hk.mono fun k h=>h ▸ hN2.old ko hko))).mono fun e w' h=>by
      rcases h with ⟨h1,rfl,h2⟩ | ⟨h1,rfl,h2,h3⟩
      · exact ⟨_,rfl,.inl ⟨h1,rfl,h2⟩,(Keep.of_below h2 (fun k h=>h)).mono fun k h=>h.1⟩
      · exact ⟨_,rfl,.inr ⟨h1,rfl,h2,h3⟩,h2⟩) ?_
     intro V r V' Be hkV hdr hkk hkF hBe hBen hBe'
     rcases hdr with ⟨hf0,hr,hbl⟩ | ⟨hf0,hr,hkd,hsk⟩
     rotate_left
     ·
      injection hr with hr
      subst hr
      refine rs [42] 90 0 ?_
      have hmm:=trivial
      refine rs [] 60 2 ?_
      exact gR (.bool false) (fun U hk => .inr ⟨ft (St.mk uK us (Ex.mk uo ut uv un uk) uB uL) deep,m1,by rw [hfl,firstIx_app,hnone];show firstIx ft (flatS deep (St.mk uK us (Ex.mk uo ut uv un uk) uB uL)++_) _=_;rw [← hm1];simp only [flatS,List.cons_append,firstIx];rw [if_neg hf0],rfl,by rw [hk.block ko (hBe ko (hN2.old ko hko))];exact hsk,hN2.keep.mono (fun k h=>⟨h.1,fun e=>h.2 (.inl e)⟩) |>.trans (hkF.mono fun k h=>⟨hN2.old k h.1,fun e=>h.2 (.inr e)⟩) |>.trans (hk.mono fun k h=>hBe k (hN2.old k h.1))⟩)
     injection hr with hr
     subst hr
     have hN3:NuI F W kn (m1+1) Be V':=⟨hN2.keep.trans ((hkV.mono fun k h=>hN2.old k h.1).trans ((Keep.of_below hbl (fun k h=>h)).mono fun k h=>Nat.lt_of_lt_of_le (Nat.lt_of_lt_of_le h.1 hN2.keep.size) hkV.size)),fun k h=>hBe k (hN2.old k h),hBe',by
      unfold CntAt
      rw [hbl.block kn (Nat.lt_of_lt_of_le (hN2.lt kn (hN2.old kn hkn)) hkV.size),hkV.block kn (hN2.old kn hkn)]
      exact hN2.cnt⟩
     clear hkF hkk hbl hkV
     have hKe:=hN3.base hKW hFW hnn
     have hFB3:∀ k,F k→Be k:=fun k h=>hN3.old k (hFW k h)
     refine rs [] 90 0 ?_
     refine gS 36 (x:=nI (wrapF .i64 ((deep:Int)+1))) (nI (((deep+1:Nat):Int))) (by rw [wr64 (n:=(deep:Int)+1) (by omega) (by omega)];rfl) ?_
     refine rs [39] 60 0 ?_
     refine good_callWN (cx:=sy_cx _ _) [.slice uj uB.length uh,nI ((deep+1:Nat):Int),nP kn,.func (.func 217) #[] #[nP kf,nP kt,nP ko]] (fun k=>k=kn∨k=ko) (Pr:=fun V r w'=>(firstIx ft (flatL (deep+1) uB) (m1+1)=none∧r = .bool true∧CntAt kn (m1+1+(flatL (deep+1) uB).length) w'∧Keep (fun k=>k<V.heap.size∧¬ k=kn) V w')∨
        (∃ er j,firstIx ft (flatL (deep+1) uB) (m1+1)=some (er,j)∧r = .bool false∧w'.heap[ko]?=some (.cells [nI er,nI ti,nI (j:Int)].toArray 80 (0,0)))) (by kernel_rfl) (by kernel_rfl) (by kernel_rfl) (fun k hk=>hk.elim (fun h=>h ▸ hN3.old kn hkn) (fun h=>h ▸ hN3.old ko hko))
      (fun V hk=>(ihN uB uj uB.length uh _ (deep+1) (m1+1) V rfl (by omega) (by omega) (by omega) uhbs uhbt (hdo.sub (fun x hx=>by rw [hfl];exact List.mem_append_right _ (List.mem_append_left _ (by simp only [flatS,List.mem_cons,List.mem_append];simp [hx])))) ((hN3.base hKW hFW hnn).trans (hk.mono fun k h=>hN3.old k (hFW k h))) (fun k h=>Nat.lt_of_lt_of_le (hN3.lt k (hN3.old k (hFW k h))) hk.size) (Nat.lt_of_lt_of_le (hN3.lt kn (hN3.old kn hkn)) hk.size) (by unfold CntAt;rw [hk.block kn (hN3.old kn hkn)];exact hN3.cnt) (spot_keep (hN3.spot hspot hnko) (hk.mono fun k h=>h ▸ hN3.old ko hko))).mono fun e w' h=>by
       rcases h with ⟨h1,rfl,h2,h3⟩ | ⟨er,j,h1,rfl,h2,h3⟩
       · exact ⟨_,rfl,.inl ⟨h1,rfl,h2,h3⟩,h3.mono fun k h=>⟨h.1,fun e=>h.2 (.inl e)⟩⟩
       · exact ⟨_,rfl,.inr ⟨er,j,h1,rfl,h2⟩,h3⟩) ?_
     intro V5 r5 U5 Bf hkV hdr hkk hkF hBe5 hBen5 hBe5'
     rcases hdr with ⟨hf5,hr,hcn,hkd⟩ | ⟨er,j,hf5,hr,hsk⟩
     rotate_left
     ·
      subst hr
      refine rs [] 90 2 ?_
      exact gR (.bool false) (fun U hk => .inr ⟨er,j,by rw [hfl,firstIx_app,hnone];show firstIx ft (flatS deep (St.mk uK us (Ex.mk uo ut uv un uk) uB uL)++_) _=_;rw [← hm1,firstIx_app,firstIx_st,if_pos hf0,hf5],rfl,by rw [hk.block ko (hBe5 ko (hN3.old ko hko))];exact hsk,hN3.keep.mono (fun k h=>⟨h.1,fun e=>h.2 (.inl e)⟩) |>.trans (hkF.mono fun k h=>⟨hN3.old k h.1,h.2⟩) |>.trans (hk.mono fun k h=>hBe5 k (hN3.old k h.1))⟩)
     subst hr
     have hN4:NuI F W kn (m1+1+(flatL (deep+1) uB).length) Bf U5:=⟨hN3.keep.trans ((hkV.mono fun k h=>hN3.old k h.1).trans (hkd.mono fun k h=>⟨Nat.lt_of_lt_of_le (Nat.lt_of_lt_of_le h.1 hN3.keep.size) hkV.size,h.2⟩)),fun k h=>hBe5 k (hN3.old k h),hBe5',hcn⟩
     clear hkF hkk hkd hkV hcn
     refine rs [] 90 0 ?_
     refine gS 46 (x:=nI (wrapF .i64 ((deep:Int)+1))) (nI (((deep+1:Nat):Int))) (by rw [wr64 (n:=(deep:Int)+1) (by omega) (by omega)];rfl) ?_
     refine rs [49] 60 0 ?_
     refine good_callWN (cx:=sy_cx _ _) [.slice ui uL.length uw,nI ((deep+1:Nat):Int),nP kn,.func (.func 217) #[] #[nP kf,nP kt,nP ko]] (fun k=>k=kn∨k=ko) (Pr:=fun V r w'=>(firstIx ft (flatL (deep+1) uL) (m1+1+(flatL (deep+1) uB).length)=none∧r = .bool true∧CntAt kn (m1+1+(flatL (deep+1) uB).length+(flatL (deep+1) uL).length) w'∧Keep (fun k=>k<V.heap.size∧¬ k=kn) V w')∨
        (∃ er j,firstIx ft (flatL (deep+1) uL) (m1+1+(flatL (deep+1) uB).length)=some (er,j)∧r = .bool false∧w'.heap[ko]?=some (.cells [nI er,nI ti,nI (j:Int)].toArray 80 (0,0)))) (by kernel_rfl) (by kernel_rfl) (by kernel_rfl) (fun k hk=>hk.elim (fun h=>h ▸ hN4.old kn hkn) (fun h=>h ▸ hN4.old ko hko))
      (fun V hk=>(ihN uL ui uL.length uw _ (deep+1) (m1+1+(flatL (deep+1) uB).length) V rfl (by omega) (by omega) (by omega) uhls uhlt (hdo.sub (fun x hx=>by rw [hfl];exact List.mem_append_right _ (List.mem_append_left _ (by simp only [flatS,List.mem_cons,List.mem_append];simp [hx])))) ((hN4.base hKW hFW hnn).trans (hk.mono fun k h=>hN4.old k (hFW k h))) (fun k h=>Nat.lt_of_lt_of_le (hN4.lt k (hN4.old k (hFW k h))) hk.size) (Nat.lt_of_lt_of_le (hN4.lt kn (hN4.old kn hkn)) hk.size) (by unfold CntAt;rw [hk.block kn (hN4.old kn hkn)];exact hN4.cnt) (spot_keep (hN4.spot hspot hnko) (hk.mono fun k h=>h ▸ hN4.old ko hko))).mono fun e w' h=>by
       rcases h with ⟨h1,rfl,h2,h3⟩ | ⟨er,j,h1,rfl,h2,h3⟩
       · exact ⟨_,rfl,.inl ⟨h1,rfl,h2,h3⟩,h3.mono fun k h=>⟨h.1,fun e=>h.2 (.inl e)⟩⟩
       · exact ⟨_,rfl,.inr ⟨er,j,h1,rfl,h2⟩,h3⟩) ?_
     intro V6 r6 U6 Bh hkV hdr hkk hkF hBe6 hBen6 hBe6'
     rcases hdr with ⟨hf6,hr,hcn,hkd⟩ | ⟨er,j,hf6,hr,hsk⟩
     rotate_left
     ·
      subst hr
      refine rs [] 90 2 ?_
      exact gR (.bool false) (fun U hk => .inr ⟨er,j,by rw [hfl,firstIx_app,hnone];show firstIx ft (flatS deep (St.mk uK us (Ex.mk uo ut uv un uk) uB uL)++_) _=_;rw [← hm1,firstIx_app,firstIx_st,if_pos hf0,hf5];show (match firstIx ft (flatL (deep+1) uL) (m1+1+(flatL (deep+1) uB).length) with | some r=>_ | none=>_)=_;rw [hf6],rfl,by rw [hk.block ko (hBe6 ko (hN4.old ko hko))];exact hsk,hN4.keep.mono (fun k h=>⟨h.1,fun e=>h.2 (.inl e)⟩) |>.trans (hkF.mono fun k h=>⟨hN4.old k h.1,h.2⟩) |>.trans (hk.mono fun k h=>hBe6 k (hN4.old k h.1))⟩)
     subst hr
     have hN5:NuI F W kn (m1+1+(flatL (deep+1) uB).length+(flatL (deep+1) uL).length) Bh U6:=⟨hN4.keep.trans ((hkV.mono fun k h=>hN4.old k h.1).trans (hkd.mono fun k h=>⟨Nat.lt_of_lt_of_le (Nat.lt_of_lt_of_le h.1 hN4.keep.size) hkV.size,h.2⟩)),fun k h=>hBe6 k (hN4.old k h),hBe6',hcn⟩
     clear hkF hkk hkd hkV hcn
     refine rs [] 90 0 ?_
     refine rs [] 60 2 ?_
     refine gJ 14 l1 (St.mk uK us (Ex.mk uo ut uv un uk) uB uL) (by omega) ?_
     exact gU _ [(1,vI (deep:Int)),(2,vP kn),(3,.fn (.func 217) [] [vP kf,vP kt,vP ko]),(12,vL a n cap),(13,vI (n:Int)),(14,vI ((l1++[(St.mk uK us (Ex.mk uo ut uv un uk) uB uL)]).length:Int))] [] gz hγ0 (ih (l1++[(St.mk uK us (Ex.mk uo ut uv un uk) uB uL)],l3) Bh U6 ⟨by show L=(l1++[_])++l3;rw [hsp];simp,by show firstIx ft (flatL deep (l1++[(St.mk uK us (Ex.mk uo ut uv un uk) uB uL)])) m=none;rw [flatL_app,firstIx_app,hnone];show firstIx ft (flatS deep (St.mk uK us (Ex.mk uo ut uv un uk) uB uL)++[]) _=none;rw [List.append_nil,← hm1,firstIx_st,if_pos hf0,hf5];exact hf6,by show NuI F W kn (m+(flatL deep (l1++[(St.mk uK us (Ex.mk uo ut uv un uk) uB uL)])).length) Bh U6;have e:m+(flatL deep (l1++[(St.mk uK us (Ex.mk uo ut uv un uk) uB uL)])).length=m1+1+(flatL (deep+1) uB).length+(flatL (deep+1) uL).length:=(by rw [flatL_app,List.length_append];show m+((flatL deep l1).length+(flatS deep (St.mk uK us (Ex.mk uo ut uv un uk) uB uL)++[]).length)=_;rw [List.append_nil,hm1];simp only [flatS,List.length_cons,List.length_append];omega);rw [e];exact hN5⟩ lS1)
end
section
open Go.Sy in
set_option maxRecDepth 100000 in
theorem cparts_any:∀ (N:Nat) (e:Ex) (cs:List Value) (w:World),wgt e≤N→wgt e≤1099511627776→ExAt (·<w.heap.size) w e cs→
  CB 167 #[.agg cs.toArray] w (nI (wgt e:Nat)):=by
 intro N
 induction N with
 | zero=>intro e cs w h;have:=wgt_pos e;omega
 | succ N ihN=>
   intro e cs w hN hbd hat
   obtain ⟨op,ty,bits,name,kids⟩:=e
   simp only [ExAt] at hat
   obtain ⟨a,cap,xs,rfl,hsl,hks⟩:=hat
   simp only [wgt] at hN hbd
   obtain ⟨n,hn⟩:∃ n,n=kids.length:=⟨_,rfl⟩
   have hnl:=wgts_len kids
   rw [← hn] at hsl hnl ⊢
   refine eN [xV op ty bits name a n cap] Tryz.func167 (fun γ0 hγ0=>?_)
   refine rk ?_
   refine good_toLp ?_
   refine good_loopI (fun i:List Ex×List Ex=>i.2.length) (fun i=>kids=i.1++i.2) (fun i=>⟨mkT [(1,.ptr gz 0),(3,vI ((wgts i.1+1:Nat):Int)),(7,vL a n cap),(8,vI (n:Int)),(9,vI (i.1.length:Int))],mkH [(gz,bK 34 5 [.v (.int .u8 op),.v (.int .u8 ty),.v (.int .u64 bits),vT name,vL a n cap])],gz+1,[]⟩)
    ([],kids) rfl (by kernel_rfl)
    (fun h=>gU _ [(1,.ptr gz 0),(3,vI ((wgts ([]:List Ex)+1:Nat):Int)),(7,vL a n cap),(8,vI (n:Int)),(9,vI (([]:List Ex).length:Int))] [(gz,bK 34 5 [.v (.int .u8 op),.v (.int .u8 ty),.v (.int .u64 bits),vT name,vL a n cap])] (gz+1) (gA hγ0) h) ?_
   rintro ⟨l1,l2⟩ hI ih
   have hI:kids=l1++l2:=hI
   have hn2:n=l1.length+l2.length:=by rw [hn,hI,List.length_append]
   have hw1:wgts kids=wgts l1+wgts l2:=by rw [hI,wgts_app]
   refine rk ?_
   cases l2 with
   | nil=>
     have hn3:n=l1.length:=by rw [hn2];simp
     refine ky (l1.length:Int) (n:Int) (by omega) ?_
     refine rk ?_
     refine gR (nI ((wgts l1+1:Nat):Int)) (fun W hk=>⟨?_,hk.below⟩)
     simp only [wgt]
     rw [hw1]
     simp [wgts]
   | cons e l3=>
     have hin:l1.length<n:=by rw [hn2,List.length_cons];omega
     have hks2:=hks
     rw [hI] at hks2
     obtain ⟨c,hc,hcell⟩:=hks2.at_
     have hcl:=hc.len
     simp only [wgts] at hw1
     have hwe:=wgt_pos e
     refine kx (l1.length:Int) (n:Int) (by omega) ?_
     refine rk ?_
     refine gI 32 34 cap l1.length hsl hin ?_
     refine rk ?_
     have hld:=fun W hk=>load_slA (P:=Tryz.prog) (ty:=34) (m:=5) (cs:=c) hsl (by kernel_rfl) (by kernel_rfl) l1.length 0 hcl hcell (W:=W) hk
     have hcall:=fun W hk=>ihN e c W (by omega) (by omega) (hc.keep hk (kU hk))
     obtain ⟨op2,ty2,bits2,name2,kids2⟩:=e
     simp only [ExAt] at hc
     obtain ⟨a2,cap2,xs2,rfl,_⟩:=hc
     refine gV (xV op2 ty2 bits2 name2 a2 kids2.length cap2) (S:=Instr.loadAt 34 (.pointer (some ⟨gB a,oB a+l1.length*5+0,none⟩))) (fun W hk=>hld W hk) ?_
     refine rk ?_
     refine gX [xV op2 ty2 bits2 name2 a2 kids2.length cap2] (nI (wgt (Ex.mk op2 ty2 bits2 name2 kids2):Nat)) (fun W hk=>hcall W hk) ?_
     refine rk ?_
     refine gS 3 (x:=nI (wrapF .i64 (((wgts l1+1:Nat):Int)+((wgt (Ex.mk op2 ty2 bits2 name2 kids2):Nat):Int)))) (nI (((wgts (l1++[(Ex.mk op2 ty2 bits2 name2 kids2)])+1:Nat):Int))) (by rw [wr64 (n:=((wgts l1+1:Nat):Int)+((wgt (Ex.mk op2 ty2 bits2 name2 kids2):Nat):Int)) (by omega) (by omega)];congr 1;rw [wgts_app];simp only [wgts];omega) ?_
     refine gJ 9 l1 (Ex.mk op2 ty2 bits2 name2 kids2) (by omega) ?_
     exact gU _ [(1,.ptr gz 0),(3,vI ((wgts (l1++[(Ex.mk op2 ty2 bits2 name2 kids2)])+1:Nat):Int)),(7,vL a n cap),(8,vI (n:Int)),(9,vI ((l1++[(Ex.mk op2 ty2 bits2 name2 kids2)]).length:Int))] [(gz,bK 34 5 [.v (.int .u8 op),.v (.int .u8 ty),.v (.int .u64 bits),vT name,vL a n cap])] (gz+1) (gA hγ0) (ih (l1++[(Ex.mk op2 ty2 bits2 name2 kids2)],l3) (by show kids=(l1++[_])++l3;rw [hI];simp) lS1)
end
end Go.Proofs.YtiacalnkmnckjaaGreatDoor
section
namespace Go.Proofs.YtiacalnkmnckjaaGreatDoor
open Go Go.RowKit Go.As
def keyIs (s:List UInt8) (m:MapEntry):Bool:=match m.key with
 | .string y=>decide (y.data.toList=s)
 | _=>false
def findE (s:List UInt8):List MapEntry→Nat→Option (Nat×Value)
 | [],_=>none
 | m::l,i=>if keyIs s m then some (i,m.val) else findE s l (i+1)
def getE (s:List UInt8):List MapEntry→Option Value
 | []=>none
 | m::l=>if keyIs s m then some m.val else getE s l
def strKeys (l:List MapEntry):Prop:=∀ m∈l,∃ y:List UInt8,m.key = .string (str y)
theorem keyIs_str {s y:List UInt8} {m:MapEntry} (h:m.key = .string (str y)):keyIs s m=decide (y=s):=by
 unfold keyIs
 rw [h]
 rfl
theorem str_beq (a b:List UInt8):(str a==str b)=decide (a=b):=by
 rw [Sy.bytes_beq]
 rfl
theorem findNow_str (s:List UInt8):∀ (l:List MapEntry) (i:Nat),strKeys l→Instr.findNow .string (.string (str s)) l i=some (findE s l i)
 | [],i,h=>rfl
 | m::l,i,h=>by
   obtain ⟨y,hy⟩:=h m (by simp)
   have ih:=findNow_str s l (i+1) (fun m' hm=>h m' (by simp [hm]))
   have hb:(str s==str y)=decide (s=y):=str_beq s y
   unfold findE
   rw [keyIs_str hy]
   by_cases e:s=y
   · subst e
     have hb:(str s==str s)=true:=by rw [str_beq];simp
     simp only [Instr.findNow,hy,Instr.sameNow,hb]
     simp
   · have hb:(str s==str y)=false:=by rw [str_beq];simp [e]
     simp only [Instr.findNow,hy,Instr.sameNow,hb]
     rw [if_neg (by simp only [decide_eq_true_eq];exact fun h=>e h.symm)]
     exact ih
theorem findE_get (s:List UInt8):∀ (l:List MapEntry) (i:Nat),(findE s l i).map (·.2)=getE s l
 | [],i=>rfl
 | m::l,i=>by
   unfold findE getE
   split
   · rfl
   · exact findE_get s l (i+1)
theorem findE_some {s:List UInt8}:∀ {l:List MapEntry} {i j:Nat} {v:Value},findE s l i=some (j,v)→i≤j∧∃ m,l[j - i]?=some m∧keyIs s m=true∧(∀ q m',q<j - i→l[q]?=some m'→keyIs s m'=false)
 | [],i,j,v,h=>by cases h
 | m::l,i,j,v,h=>by
   unfold findE at h
   split at h
   · rename_i hk
     injection h with h
     injection h with h1 h2
     subst h1
     exact ⟨Nat.le_refl _,m,by simp,hk,fun q m' hq=>by omega⟩
   · rename_i hk
     obtain ⟨h1,m',h2,h3,h4⟩:=findE_some h
     refine ⟨by omega,m',?_,h3,fun q m2 hq h5=>?_⟩
     · rw [show j - i=(j - (i+1))+1 by omega];simpa using h2
     · cases q with
       | zero=>simp at h5;subst h5;simpa using hk
       | succ q=>exact h4 q m2 (by omega) (by simpa using h5)
def MpAt (F:Nat→Prop) (w:World) (k:Nat) (f:List UInt8→Option Value):Prop:=F k∧∃ l clk,w.heap[k]?=some (.map l clk)∧strKeys l.toList∧∀ s,getE s l.toList=f s
theorem MpAt.keep {F F':Nat→Prop} {w w':World} {k:Nat} {f:List UInt8→Option Value} (h:MpAt F w k f) (hk:Sy.Keep F w w') (hF:∀ k,F k→F' k):MpAt F' w' k f:=by
 obtain ⟨h1,l,clk,h2,h3,h4⟩:=h
 exact ⟨hF k h1,l,clk,by rw [hk.block k h1];exact h2,h3,h4⟩
theorem MpAt.new {F:Nat→Prop} {w:World} {k:Nat} (hF:F k) (h:w.heap[k]?=some (.map #[] 0)):MpAt F w k fun _=>none:=
 ⟨hF,#[],0,h,fun m hm=>by simp at hm,fun s=>rfl⟩
theorem map_lookup {P:Program} {t kt et:TypeId} {z:Value} (hu:P.underlying t=some (.map kt et)) (hk:P.underlying kt=some .string) (hz:Sy.zeroB P et=some z) {F:Nat→Prop} {w0:World} {k:Nat} {f:List UInt8→Option Value} (h:MpAt F w0 k f) (s:List UInt8) {w:World} (hkeep:Sy.Keep F w0 w):
  (Instr.lookup t (.map (some k)) (.string (str s)) false).run P w = .ok ((f s).getD z) w:=by
 obtain ⟨hF,l,clk,h1,h2,h3⟩:=h
 have h1:w.heap[k]?=some (.map l clk):=by rw [hkeep.block k hF];exact h1
 have hg:(getObj k).run P w = .ok (.map l clk) w:=by simp only [getObj,Sem.run,h1]
 have hf:(Instr.findKey kt (.string (str s)) l.toList).run P w = .ok (findE s l.toList 0) w:=Sy.findKey_now hk (findNow_str s l.toList 0 h2) w
 have hv:=findE_get s l.toList 0
 rw [h3] at hv
 have hlk:(Instr.lookup t (.map (some k)) (.string (str s)) false).run P w=(do
   Instr.checkKey l.isEmpty (9999+1) kt (.string (str s))
   let (v,k) ← match ← Instr.findKey kt (.string (str s)) l.toList with
    | some (_,v)=>pure (v,true)
    | none=>pure (← zeroValue et,false)
   pure v:Sem Value).run P w:=by
  unfold Instr.lookup
  rw [Sem.run_bind,run_underlying hu w,Result.andThen_ok]
  simp only [Sem.run_bind,hg,Result.andThen_ok,Sem.run_pure]
  rfl
 rw [hlk]
 simp only [Sem.run_bind,Sy.checkKey_str hk,Result.andThen_ok,hf]
 cases hx:findE s l.toList 0 with
 | none=>
   rw [hx] at hv
   simp only [Option.map_none] at hv
   rw [← hv]
   simp only [Sem.run_bind,Sy.zeroB_ok hz,Result.andThen_ok,Sem.run_pure]
   rfl
 | some p=>
   obtain ⟨j,v⟩:=p
   rw [hx] at hv
   simp only [Option.map_some] at hv
   rw [← hv]
   simp only [Sem.run_pure,Result.andThen_ok]
   rfl
theorem getE_app (s:List UInt8) (e:MapEntry):∀ (l:List MapEntry),getE s (l++[e])=(match getE s l with | some v=>some v | none=>if keyIs s e then some e.val else none)
 | []=>by
   simp only [List.nil_append,getE]
 | m::l=>by
   simp only [List.cons_append,getE]
   split
   · rfl
   · exact getE_app s e l
theorem findE_none {s:List UInt8} {l:List MapEntry} (h:findE s l 0=none):getE s l=none:=by
 have:=findE_get s l 0
 rw [h] at this
 exact this.symm
theorem getE_modify {s:List UInt8} {v:Value}:∀ {l:List MapEntry} {j:Nat} {m:MapEntry},l[j]?=some m→keyIs s m=true→m.key = .string (str s)→(∀ q m',q<j→l[q]?=some m'→keyIs s m'=false)→
  ∀ x,getE x (l.modify j fun e=>{ e with key := .string (str s),val:=v })=if x=s then some v else getE x l
 | [],j,m,h,_,_,_,x=>by simp at h
 | m0::l,0,m,h,hk,hs,hq,x=>by
   simp only [List.getElem?_cons_zero,Option.some.injEq] at h
   subst h
   have e1:keyIs x { m0 with key := .string (str s),val:=v }=decide (s=x):=keyIs_str rfl
   have e2:keyIs x m0=decide (s=x):=keyIs_str hs
   simp only [List.modify_zero_cons,getE,e1,e2]
   by_cases hx:x=s
   · subst hx;simp
   · rw [if_neg hx,if_neg (by simp only [decide_eq_true_eq];exact fun h=>hx h.symm),if_neg (by simp only [decide_eq_true_eq];exact fun h=>hx h.symm)]
 | m0::l,j+1,m,h,hk,hs,hq,x=>by
   have ih:=getE_modify (v:=v) (l:=l) (j:=j) (by simpa using h) hk hs (fun q m' h1 h2=>hq (q+1) m' (by omega) (by simpa using h2)) x
   have h0:=hq 0 m0 (by omega) rfl
   simp only [List.modify_succ_cons,getE]
   by_cases hx:x=s
   · subst hx
     rw [h0,ih]
     simp
   · rw [if_neg hx] at ih ⊢
     rw [ih]
theorem map_update {P:Program} {t kt et:TypeId} (hu:P.underlying t=some (.map kt et)) (hk:P.underlying kt=some .string) {F:Nat→Prop} {w0:World} {k:Nat} {f:List UInt8→Option Value} (h:MpAt F w0 k f) (s:List UInt8) (v:Value) {w:World} (hkeep:Sy.Keep F w0 w):
  ∃ w',(Instr.mapUpdate t (.map (some k)) (.string (str s)) v).run P w = .ok () w'∧(∀ F':Nat→Prop,F' k→MpAt F' w' k fun x=>if x=s then some v else f x)∧Sy.Keep (fun j=>j<w.heap.size∧¬ j=k) w w':=by
 obtain ⟨hF,l,clk,h1,h2,h3⟩:=h
 have h1:w.heap[k]?=some (.map l clk):=by rw [hkeep.block k hF];exact h1
 have hlt:k<w.heap.size:=(Array.getElem?_eq_some_iff.1 h1).1
 have hg:(getObj k).run P w = .ok (.map l clk) w:=by simp only [getObj,Sem.run,h1]
 have hf:(Instr.findKey kt (.string (str s)) l.toList).run P w = .ok (findE s l.toList 0) w:=Sy.findKey_now hk (findNow_str s l.toList 0 h2) w
 have hck:=Sy.checkKey_str (P:=P) hk false (str s) w
 have keepW:∀ (l':Array MapEntry) (k':Nat),Sy.Keep (fun j=>j<w.heap.size∧¬ j=k) w { w with heap:=w.heap.setIfInBounds k (.map l' k') }:=fun l' k'=>
  ⟨rfl,rfl,rfl,by simp,fun j hj=>by
   show (w.heap.setIfInBounds k (.map l' k'))[j]?=_
   rw [Array.getElem?_setIfInBounds_ne (fun e=>hj.2 e.symm)]⟩
 cases hx:findE s l.toList 0 with
 | none=>
   refine ⟨{ w with heap:=w.heap.setIfInBounds k (.map (l.push { key := .string (str s),val:=v,born:=clk }) (clk+1)) },?_,fun F' hF'=>⟨hF',_,_,by show (w.heap.setIfInBounds k _)[k]?=_;rw [Array.getElem?_setIfInBounds_self_of_lt hlt],?_,?_⟩,keepW _ _⟩
   · unfold Instr.mapUpdate
     rw [hx] at hf
     simp only [Sem.run_bind,run_underlying hu,Result.andThen_ok,hg,hf,Sy.run_setObj_map h1]
     erw [hck]
     simp only [Result.andThen_ok,hf,Sy.run_setObj_map h1]
   · intro m hm
     rw [Array.toList_push,List.mem_append] at hm
     rcases hm with hm | hm
     · exact h2 m hm
     · simp at hm;subst hm;exact ⟨s,rfl⟩
   · intro x
     rw [Array.toList_push,getE_app,h3]
     have e1:keyIs x { key := .string (str s),val:=v,born:=clk }=decide (s=x):=keyIs_str rfl
     rw [e1]
     have hn:=findE_none hx
     rw [h3] at hn
     show _=if x=s then some v else f x
     by_cases hxs:x=s
     · subst hxs;rw [hn];simp
     · rw [if_neg hxs,if_neg (by simp only [decide_eq_true_eq];exact fun h=>hxs h.symm)]
       cases f x <;> rfl
 | some p=>
   obtain ⟨j,v0⟩:=p
   obtain ⟨_,m,q1,q2,q3⟩:=findE_some hx
   rw [Nat.sub_zero] at q1 q3
   obtain ⟨y,hy⟩:=h2 m (List.mem_of_getElem? q1)
   have hys:y=s:=by rw [keyIs_str hy] at q2;exact of_decide_eq_true q2
   subst hys
   refine ⟨{ w with heap:=w.heap.setIfInBounds k (.map (l.modify j fun e=>{ e with key := .string (str y),val:=v }) clk) },?_,fun F' hF'=>⟨hF',_,_,by show (w.heap.setIfInBounds k _)[k]?=_;rw [Array.getElem?_setIfInBounds_self_of_lt hlt],?_,?_⟩,keepW _ _⟩
   · unfold Instr.mapUpdate
     rw [hx] at hf
     have hli:l[j]?=some m:=by simpa using q1
     have hstay:(Instr.keyThatStays (.string (str y)) (.string (str y))).run P w = .ok (.string (str y)) w:=by
      unfold Instr.keyThatStays
      have:Instr.sameBits 10000 (.string (str y)) (.string (str y))=true:=by
       have e:Instr.sameBits 10000 (.string (str y)) (.string (str y))=(str y==str y):=rfl
       rw [e,str_beq]
       simp
      rw [if_pos this]
      rfl
     simp only [Sem.run_bind,run_underlying hu,Result.andThen_ok,hg,hf,hli,Option.map_some,Option.getD_some,hy,hstay,Sy.run_setObj_map h1]
     erw [hck]
     simp only [Result.andThen_ok,hf,hli,Option.map_some,Option.getD_some,hy,Sem.run_bind,hstay,Sy.run_setObj_map h1]
   · intro m' hm'
     rw [Array.toList_modify] at hm'
     obtain ⟨i,hi⟩:=List.mem_iff_getElem?.1 hm'
     rw [List.getElem?_modify] at hi
     cases hli:l.toList[i]? with
     | none=>rw [hli] at hi;simp at hi
     | some m2=>
       rw [hli] at hi
       simp only [Option.map_eq_map,Option.map_some,Option.some.injEq] at hi
       split at hi
       · subst hi;exact ⟨y,rfl⟩
       · subst hi;exact h2 m2 (List.mem_of_getElem? hli)
   · intro x
     rw [Array.toList_modify,getE_modify q1 q2 hy q3,h3]
end Go.Proofs.YtiacalnkmnckjaaGreatDoor
end
namespace Go.Proofs.YtiacalnkmnckjaaGreatDoor
open Go.RowKit Go.As
section
abbrev Thg:=List UInt8→Option (Int×Int)
def thOf (th:Thg) (s:List UInt8):Int×Int:=(th s).getD (0,0)
def ThgAt (F:Nat→Prop) (w:World) (k:Nat) (th:Thg):Prop:=MpAt F w k fun s=>(th s).map fun p => .agg #[.int .i64 p.1,.int .u8 p.2]
theorem ThgAt.keep {F F':Nat→Prop} {w w':World} {k:Nat} {th:Thg} (h:ThgAt F w k th) (hk:Sy.Keep F w w') (hF:∀ k,F k→F' k):ThgAt F' w' k th:=MpAt.keep h hk hF
theorem thg_look {F:Nat→Prop} {w0:World} {k:Nat} {th:Thg} (h:ThgAt F w0 k th) (s:List UInt8) {w:World} (hk:Sy.Keep F w0 w):
  (Instr.lookup 146 (.map (some k)) (.string (str s)) false).run Tryz.prog w = .ok (.agg #[.int .i64 (thOf th s).1,.int .u8 (thOf th s).2]) w:=by
 rw [map_lookup (kt:=9) (et:=201) (z := .agg #[.int .i64 0,.int .u8 0]) (by kernel_rfl) (by kernel_rfl) (by kernel_rfl) h s hk]
 unfold thOf
 cases th s <;> rfl
mutual
def tch (th:Thg):Ex→Nat
 | .mk op _ _ name kids=>(if op=2∧(thOf th name).1=1 then 1 else 0)+tchs th kids
def tchs (th:Thg):List Ex→Nat
 | []=>0
 | e::l=>tch th e+tchs th l
end
theorem tchs_app (th:Thg):∀ (l r:List Ex),tchs th (l++r)=tchs th l+tchs th r
 | [],r=>by simp [tchs]
 | e::l,r=>by
   simp only [List.cons_append,tchs]
   rw [tchs_app th l r]
   omega
mutual
theorem tch_le (th:Thg):∀ e:Ex,tch th e≤wgt e
 | .mk op _ _ name kids=>by
   have:=tchs_le th kids
   simp only [tch,wgt]
   split <;> omega
theorem tchs_le (th:Thg):∀ l:List Ex,tchs th l≤wgts l
 | []=>Nat.le_refl _
 | e::l=>by
   have:=tch_le th e
   have:=tchs_le th l
   simp only [tchs,wgts]
   omega
end
open Go.Sy in
set_option maxRecDepth 100000 in
theorem ctouches_any (km:Nat) (th:Thg):∀ (N:Nat),∀ (e:Ex) (cs:List Value) (w:World),wgt e≤N→wgt e≤1099511627776→ThgAt (·<w.heap.size) w km th→ExAt (·<w.heap.size) w e cs→
  CB 174 #[.map (some km),.agg cs.toArray] w (nI (tch th e:Nat)):=by
 intro N
 induction N with
 | zero=>intro e cs w h;have:=wgt_pos e;omega
 | succ N ihN=>
   intro e cs w hN hbd hm hat
   obtain ⟨op,ty,bits,name,kids⟩:=e
   simp only [ExAt] at hat
   obtain ⟨a,cap,xs,rfl,hsl,hks⟩:=hat
   simp only [wgt] at hN hbd
   obtain ⟨n,hn⟩:∃ n,n=kids.length:=⟨_,rfl⟩
   have hnl:=wgts_len kids
   rw [← hn] at hsl hnl ⊢
   refine eN [.map (some km),xV op ty bits name a n cap] Tryz.func174 (fun γ0 hγ0=>?_)
   refine rs [11] 60 0 ?_
   by_cases c2:op=2
   case' neg=>
    refine gF 10 op 2 c2 ?_
    refine rs [] 60 1 ?_
    have hc:(if op=2∧(thOf th name).1=1 then 1 else 0)=0:=if_neg (fun h=>c2 h.1)
    obtain ⟨cn,hcn⟩:∃ cn:Nat,cn=0:=⟨_,rfl⟩
   case' pos=>
    refine gT 10 op 2 c2 ?_
    refine rs [15] 60 0 ?_
    refine gV (.agg #[nI (thOf th name).1,.int .u8 (thOf th name).2]) (S:=Instr.lookup 146 (.map (some km)) (nT name) false) (fun W hk=>thg_look hm name hk) ?_
    refine rs [18] 60 0 ?_
    by_cases ck:(thOf th name).1=1
    case' pos=>
     refine gS 17 (x := .bool (intEq (thOf th name).1 1)) (.bool true) (by rw [eq_t ck]) ?_
     refine rs [] 60 1 ?_
     have hc:(if op=2∧(thOf th name).1=1 then 1 else 0)=1:=if_pos ⟨c2,ck⟩
     obtain ⟨cn,hcn⟩:∃ cn:Nat,cn=1:=⟨_,rfl⟩
    case' neg=>
     refine gS 17 (x := .bool (intEq (thOf th name).1 1)) (.bool false) (by rw [eq_f ck]) ?_
     refine rs [] 60 1 ?_
     have hc:(if op=2∧(thOf th name).1=1 then 1 else 0)=0:=if_neg (fun h=>ck h.2)
     obtain ⟨cn,hcn⟩:∃ cn:Nat,cn=0:=⟨_,rfl⟩
   all_goals
    have hc:=hc.trans hcn.symm
    have hcn1:cn≤1:=by omega
    refine good_toLp ?_
    refine gS 5 (nI ((tchs th []+cn:Nat):Int)) (by subst hcn;rfl) ?_
    refine good_loopI (fun i:List Ex×List Ex=>i.2.length) (fun i=>kids=i.1++i.2) (fun i=>⟨mkT [(0,.v (.map (some km))),(3,.ptr gz 0),(5,vI ((tchs th i.1+cn:Nat):Int)),(22,vL a n cap),(23,vI (n:Int)),(24,vI (i.1.length:Int))],mkH [(gz,bK 34 5 [.v (.int .u8 op),.v (.int .u8 ty),.v (.int .u64 bits),vT name,vL a n cap])],gz+1,[]⟩)
     ([],kids) rfl (by kernel_rfl)
     (fun h=>gU _ [(0,.v (.map (some km))),(3,.ptr gz 0),(5,vI ((tchs th ([]:List Ex)+cn:Nat):Int)),(22,vL a n cap),(23,vI (n:Int)),(24,vI (([]:List Ex).length:Int))] [(gz,bK 34 5 [.v (.int .u8 op),.v (.int .u8 ty),.v (.int .u64 bits),vT name,vL a n cap])] (gz+1) (gA hγ0) h) ?_
    rintro ⟨l1,l2⟩ hI ih
    have hI:kids=l1++l2:=hI
    have hn2:n=l1.length+l2.length:=by rw [hn,hI,List.length_append]
    have hw1:wgts kids=wgts l1+wgts l2:=by rw [hI,wgts_app]
    have ht1:=tchs_le th l1
    refine rk ?_
    cases l2 with
    | nil=>
      have hn3:n=l1.length:=by rw [hn2];simp
      have hl1:l1=kids:=by rw [hI];simp
      refine ky (l1.length:Int) (n:Int) (by omega) ?_
      refine rk ?_
      refine gR (nI ((tchs th l1+cn:Nat):Int)) (fun W hk=>⟨?_,hk.below⟩)
      simp only [tch]
      rw [hl1,hc,Nat.add_comm]
    | cons e l3=>
      have hin:l1.length<n:=by rw [hn2,List.length_cons];omega
      have hks2:=hks
      rw [hI] at hks2
      obtain ⟨c,hc1,hcell⟩:=hks2.at_
      have hcl:=hc1.len
      simp only [wgts] at hw1
      have hwe:=tch_le th e
      refine kx (l1.length:Int) (n:Int) (by omega) ?_
      refine rk ?_
      refine gI 32 34 cap l1.length hsl hin ?_
      refine rk ?_
      have hld:=fun W hk=>load_slA (P:=Tryz.prog) (ty:=34) (m:=5) (cs:=c) hsl (by kernel_rfl) (by kernel_rfl) l1.length 0 hcl hcell (W:=W) hk
      have hcall:=fun W (hk:Keep (·<w.heap.size) w W)=>ihN e c W (by omega) (by omega) (hm.keep hk (kU hk)) (hc1.keep hk (kU hk))
      obtain ⟨op2,ty2,bits2,name2,kids2⟩:=e
      simp only [ExAt] at hc1
      obtain ⟨a2,cap2,xs2,rfl,_⟩:=hc1
      refine gV (xV op2 ty2 bits2 name2 a2 kids2.length cap2) (S:=Instr.loadAt 34 (.pointer (some ⟨gB a,oB a+l1.length*5+0,none⟩))) (fun W hk=>hld W hk) ?_
      refine rk ?_
      refine gX [.map (some km),xV op2 ty2 bits2 name2 a2 kids2.length cap2] (nI (tch th (Ex.mk op2 ty2 bits2 name2 kids2):Nat)) (fun W hk=>hcall W hk) ?_
      refine rk ?_
      refine gS 5 (x:=nI (wrapF .i64 (((tchs th l1+cn:Nat):Int)+((tch th (Ex.mk op2 ty2 bits2 name2 kids2):Nat):Int)))) (nI (((tchs th (l1++[(Ex.mk op2 ty2 bits2 name2 kids2)])+cn:Nat):Int))) (by rw [wr64 (n:=((tchs th l1+cn:Nat):Int)+((tch th (Ex.mk op2 ty2 bits2 name2 kids2):Nat):Int)) (by omega) (by omega)];congr 1;rw [tchs_app];simp only [tchs];omega) ?_
      refine gJ 24 l1 (Ex.mk op2 ty2 bits2 name2 kids2) (by omega) ?_
      exact gU _ [(0,.v (.map (some km))),(3,.ptr gz 0),(5,vI ((tchs th (l1++[(Ex.mk op2 ty2 bits2 name2 kids2)])+cn:Nat):Int)),(22,vL a n cap),(23,vI (n:Int)),(24,vI ((l1++[(Ex.mk op2 ty2 bits2 name2 kids2)]).length:Int))] [(gz,bK 34 5 [.v (.int .u8 op),.v (.int .u8 ty),.v (.int .u64 bits),vT name,vL a n cap])] (gz+1) (gA hγ0) (ih (l1++[(Ex.mk op2 ty2 bits2 name2 kids2)],l3) (by show kids=(l1++[_])++l3;rw [hI];simp) lS1)
end
section
set_option maxRecDepth 100000
def isVar (k:Int):Bool:=Sy.intEq k 1 || Sy.intEq k 2
mutual
def unk (th:Thg):Ex→Bool
 | .mk op _ _ name kids=>(decide (op=2)&&!isVar (thOf th name).1) || unks th kids
def unks (th:Thg):List Ex→Bool
 | []=>false
 | e::l=>unk th e || unks th l
end
theorem unks_app (th:Thg):∀ (l r:List Ex),unks th (l++r)=(unks th l || unks th r)
 | [],r=>by simp [unks]
 | e::l,r=>by
   simp only [List.cons_append,unks]
   rw [unks_app th l r,Bool.or_assoc]
open Go.Sy
theorem cvar_any (k t:Int) (w:World):CB 172 #[.agg #[nI k,.int .u8 t]] w (.bool (isVar k)):=by
 refine eN [.agg #[nI k,.int .u8 t]] Tryz.func172 (fun γ0 hγ0=>?_)
 refine rs [6] 60 0 ?_
 by_cases h1:k=1
 ·
  refine gT 5 k 1 h1 ?_
  refine rs [] 60 3 ?_
  refine gR (.bool true) (fun W hk=>⟨by unfold isVar;rw [eq_t h1];rfl,hk.below⟩)
 refine gF 5 k 1 h1 ?_
 refine rs [] 60 3 ?_
 refine gR (.bool (intEq k 2)) (fun W hk=>⟨by unfold isVar;rw [eq_f h1];rfl,hk.below⟩)
theorem cunknown_any (km:Nat) (th:Thg):∀ (N:Nat),∀ (e:Ex) (cs:List Value) (w:World),wgt e≤N→wgt e≤1099511627776→ThgAt (·<w.heap.size) w km th→ExAt (·<w.heap.size) w e cs→
  CB 108 #[.map (some km),.agg cs.toArray] w (.bool (unk th e)):=by
 intro N
 induction N with
 | zero=>intro e cs w h;have:=wgt_pos e;omega
 | succ N ihN=>
   intro e cs w hN hbd hm hat
   obtain ⟨op,ty,bits,name,kids⟩:=e
   simp only [ExAt] at hat
   obtain ⟨a,cap,xs,rfl,hsl,hks⟩:=hat
   simp only [wgt] at hN hbd
   obtain ⟨n,hn⟩:∃ n,n=kids.length:=⟨_,rfl⟩
   have hnl:=wgts_len kids
   rw [← hn] at hsl hnl ⊢
   refine eN [.map (some km),xV op ty bits name a n cap] Tryz.func108 (fun γ0 hγ0=>?_)
   refine rs [10] 60 0 ?_
   by_cases c2:op=2
   case' neg=>
    refine gF 9 op 2 c2 ?_
    refine rs [] 60 1 ?_
    have hz:(decide (op=2)&&!isVar (thOf th name).1)=false:=by simp [c2]
   case' pos=>
    refine gT 9 op 2 c2 ?_
    refine rs [14] 60 0 ?_
    refine gV (.agg #[nI (thOf th name).1,.int .u8 (thOf th name).2]) (S:=Instr.lookup 146 (.map (some km)) (nT name) false) (fun W hk=>thg_look hm name hk) ?_
    refine rs [15] 60 0 ?_
    rcases Bool.eq_false_or_eq_true (isVar (thOf th name).1) with hv | hv
    rotate_left
    ·
     refine gX [.agg #[nI (thOf th name).1,.int .u8 (thOf th name).2]] (.bool false) (fun W hk=>by rw [← hv];exact cvar_any _ _ W) ?_
     refine rs [] 60 3 ?_
     refine gR (.bool true) (fun W hk=>⟨by simp [unk,c2,hv],hk.below⟩)
    refine gX [.agg #[nI (thOf th name).1,.int .u8 (thOf th name).2]] (.bool true) (fun W hk=>by rw [← hv];exact cvar_any _ _ W) ?_
    refine rs [] 60 1 ?_
    have hz:(decide (op=2)&&!isVar (thOf th name).1)=false:=by simp [hv]
   all_goals
    refine good_toLp ?_
    refine good_loopI (fun i:List Ex×List Ex=>i.2.length) (fun i=>kids=i.1++i.2∧unks th i.1=false) (fun i=>⟨mkT [(0,.v (.map (some km))),(3,.ptr gz 0),(4,vB false),(19,vL a n cap),(20,vI (n:Int)),(21,vI (i.1.length:Int))],mkH [(gz,bK 34 5 [.v (.int .u8 op),.v (.int .u8 ty),.v (.int .u64 bits),vT name,vL a n cap])],gz+1,[]⟩)
     ([],kids) ⟨rfl,rfl⟩ (by kernel_rfl)
     (fun h=>gU _ [(0,.v (.map (some km))),(3,.ptr gz 0),(4,vB false),(19,vL a n cap),(20,vI (n:Int)),(21,vI (([]:List Ex).length:Int))] [(gz,bK 34 5 [.v (.int .u8 op),.v (.int .u8 ty),.v (.int .u64 bits),vT name,vL a n cap])] (gz+1) (gA hγ0) h) ?_
    rintro ⟨l1,l2⟩ ⟨hI,hu⟩ ih
    have hI:kids=l1++l2:=hI
    have hu:unks th l1=false:=hu
    have hn2:n=l1.length+l2.length:=by rw [hn,hI,List.length_append]
    have hw1:wgts kids=wgts l1+wgts l2:=by rw [hI,wgts_app]
    refine rk ?_
    cases l2 with
    | nil=>
      have hn3:n=l1.length:=by rw [hn2];simp
      have hl1:l1=kids:=by rw [hI];simp
      refine ky (l1.length:Int) (n:Int) (by omega) ?_
      refine rs [] 60 2 ?_
      refine gR (.bool false) (fun W hk=>⟨by rw [unk,hz,← hl1,hu];rfl,hk.below⟩)
    | cons e l3=>
      have hin:l1.length<n:=by rw [hn2,List.length_cons];omega
      have hks2:=hks
      rw [hI] at hks2
      obtain ⟨c,hc1,hcell⟩:=hks2.at_
      have hcl:=hc1.len
      simp only [wgts] at hw1
      have hun:unks th kids=(unk th e || unks th l3):=by rw [hI,unks_app,hu];rfl
      refine kx (l1.length:Int) (n:Int) (by omega) ?_
      refine rk ?_
      refine gI 32 34 cap l1.length hsl hin ?_
      refine rk ?_
      have hld:=fun W hk=>load_slA (P:=Tryz.prog) (ty:=34) (m:=5) (cs:=c) hsl (by kernel_rfl) (by kernel_rfl) l1.length 0 hcl hcell (W:=W) hk
      have hcall:=fun W (hk:Keep (·<w.heap.size) w W)=>ihN e c W (by omega) (by omega) (hm.keep hk (kU hk)) (hc1.keep hk (kU hk))
      obtain ⟨op2,ty2,bits2,name2,kids2⟩:=e
      simp only [ExAt] at hc1
      obtain ⟨a2,cap2,xs2,rfl,_⟩:=hc1
      refine gV (xV op2 ty2 bits2 name2 a2 kids2.length cap2) (S:=Instr.loadAt 34 (.pointer (some ⟨gB a,oB a+l1.length*5+0,none⟩))) (fun W hk=>hld W hk) ?_
      refine rk ?_
      rcases Bool.eq_false_or_eq_true (unk th (Ex.mk op2 ty2 bits2 name2 kids2)) with hx | hx
      ·
       refine gX [.map (some km),xV op2 ty2 bits2 name2 a2 kids2.length cap2] (.bool true) (fun W hk=>by rw [← hx];exact hcall W hk) ?_
       refine rs [] 60 3 ?_
       refine gR (.bool true) (fun W hk=>⟨by rw [unk,hun,hx];simp,hk.below⟩)
      refine gX [.map (some km),xV op2 ty2 bits2 name2 a2 kids2.length cap2] (.bool false) (fun W hk=>by rw [← hx];exact hcall W hk) ?_
      refine rs [] 60 1 ?_
      refine gJ 21 l1 (Ex.mk op2 ty2 bits2 name2 kids2) (by omega) ?_
      exact gU _ [(0,.v (.map (some km))),(3,.ptr gz 0),(4,vB false),(19,vL a n cap),(20,vI (n:Int)),(21,vI ((l1++[(Ex.mk op2 ty2 bits2 name2 kids2)]).length:Int))] [(gz,bK 34 5 [.v (.int .u8 op),.v (.int .u8 ty),.v (.int .u64 bits),vT name,vL a n cap])] (gz+1) (gA hγ0) (ih (l1++[(Ex.mk op2 ty2 bits2 name2 kids2)],l3) ⟨by show kids=(l1++[_])++l3;rw [hI];simp,by show unks th (l1++[_])=false;rw [unks_app,hu];simp [unks,hx]⟩ lS1)
end
section
set_option maxRecDepth 100000
def cw (b:Bool) (t:Int):Int:=if b=true then t else 0
def numT (a:Int):Bool:=Sy.intEq a 1 || Sy.intEq a 3
def resT (op a b:Int):Int:=
 if op=3∨op=4 then cw (Sy.intEq a 2&&Sy.intEq b 2) 2 else if op=5∨op=6 then cw (Sy.intEq a b) 2 else if 7≤op∧op≤10 then cw (Sy.intEq a b&&numT a) 2
 else if 11≤op∧op≤14 then cw (Sy.intEq a b&&numT a) a else if op=15 then cw (Sy.intEq a 1&&Sy.intEq b 1) 1 else if op=16 then cw (numT a) a else if op=17 then cw (Sy.intEq a 2) 2 else if op=18 then cw (Sy.intEq a 3) 1 else if op=19 then cw (Sy.intEq a 1) 3 else 0
open Go.Sy
theorem cwhen_any (b:Bool) (t:Int) (w:World):CB 218 #[.bool b,.int .u8 t] w (.int .u8 (cw b t)):=by
 refine eN [.bool b,.int .u8 t] Tryz.func218 (fun γ0 hγ0=>?_)
 cases b
 all_goals
  refine rs [] 60 3 ?_
 · exact gR (.int .u8 0) (fun W hk=>⟨rfl,hk.below⟩)
 · exact gR (.int .u8 t) (fun W hk=>⟨rfl,hk.below⟩)
theorem cnumeric_any (a:Int) (w:World):CB 219 #[.int .u8 a] w (.bool (numT a)):=by
 refine eN [.int .u8 a] Tryz.func219 (fun γ0 hγ0=>?_)
 refine rs [5] 60 0 ?_
 by_cases h1:a=1
 ·
  refine gT 4 a 1 h1 ?_
  refine rs [] 60 3 ?_
  refine gR (.bool true) (fun W hk=>⟨by unfold numT;rw [eq_t h1];rfl,hk.below⟩)
 refine gF 4 a 1 h1 ?_
 refine rs [] 60 3 ?_
 refine gR (.bool (intEq a 3)) (fun W hk=>⟨by unfold numT;rw [eq_f h1];rfl,hk.below⟩)
theorem cresult_or (op a b:Int) (w:World) (h:op=3∨op=4):CB 178 #[.int .u8 op,.int .u8 a,.int .u8 b] w (.int .u8 (resT op a b)):=by
 have hr:resT op a b=cw (Sy.intEq a 2&&Sy.intEq b 2) 2:=by
  rcases h with rfl | rfl <;> simp [resT]
 rw [hr]
 clear hr
 rcases h with rfl | rfl
 all_goals
  refine eN [.int .u8 _,.int .u8 a,.int .u8 b] Tryz.func178 (fun γ0 hγ0=>?_)
  refine rs [13] 250 30 ?_
  by_cases ha:a=2
  ·
   refine gT 12 a 2 ha ?_
   refine rs [] 60 3 ?_
   refine gX [.bool (intEq b 2),.int .u8 2] (.int .u8 (cw (intEq b 2) 2)) (fun W hk=>cwhen_any _ _ W) ?_
   refine rs [] 60 3 ?_
   refine gR (.int .u8 (cw (intEq b 2) 2)) (fun W hk=>⟨by rw [eq_t ha];rfl,hk.below⟩)
  refine gF 12 a 2 ha ?_
  refine rs [] 60 3 ?_
  refine gX [.bool (false),.int .u8 2] (.int .u8 (cw (false) 2)) (fun W hk=>cwhen_any _ _ W) ?_
  refine rs [] 60 3 ?_
  refine gR (.int .u8 (cw (false) 2)) (fun W hk=>⟨by rw [eq_f ha];rfl,hk.below⟩)
theorem cresult_eq (op a b:Int) (w:World) (h:op=5∨op=6):CB 178 #[.int .u8 op,.int .u8 a,.int .u8 b] w (.int .u8 (resT op a b)):=by
 have hr:resT op a b=cw (Sy.intEq a b) 2:=by
  rcases h with rfl | rfl <;> simp [resT]
 rw [hr]
 clear hr
 rcases h with rfl | rfl
 all_goals
  refine eN [.int .u8 _,.int .u8 a,.int .u8 b] Tryz.func178 (fun γ0 hγ0=>?_)
  refine rs [] 250 30 ?_
  refine gX [.bool (intEq a b),.int .u8 2] (.int .u8 (cw (intEq a b) 2)) (fun W hk=>cwhen_any _ _ W) ?_
  refine rs [] 60 3 ?_
  refine gR (.int .u8 (cw (intEq a b) 2)) (fun W hk=>⟨rfl,hk.below⟩)
theorem cresult_lt (op a b:Int) (w:World) (h:op=7∨op=8∨op=9∨op=10):CB 178 #[.int .u8 op,.int .u8 a,.int .u8 b] w (.int .u8 (resT op a b)):=by
 have hr:resT op a b=cw (Sy.intEq a b&&numT a) 2:=by
  rcases h with rfl | rfl | rfl | rfl <;> simp [resT]
 rw [hr]
 clear hr
 rcases h with rfl | rfl | rfl | rfl
 all_goals
  refine eN [.int .u8 _,.int .u8 a,.int .u8 b] Tryz.func178 (fun γ0 hγ0=>?_)
  refine rs [33] 250 30 ?_
  by_cases ha:a=b
  ·
   refine gT 32 a b ha ?_
   refine rs [] 60 3 ?_
   refine gX [.int .u8 a] (.bool (numT a)) (fun W hk=>cnumeric_any a W) ?_
   refine rs [] 60 3 ?_
   refine gX [.bool (numT a),.int .u8 2] (.int .u8 (cw (numT a) 2)) (fun W hk=>cwhen_any _ _ W) ?_
   refine rs [] 60 3 ?_
   refine gR (.int .u8 (cw (numT a) 2)) (fun W hk=>⟨by rw [eq_t ha];rfl,hk.below⟩)
  refine gF 32 a b ha ?_
  refine rs [] 60 3 ?_
  refine gX [.bool (false),.int .u8 2] (.int .u8 (cw (false) 2)) (fun W hk=>cwhen_any _ _ W) ?_
  refine rs [] 60 3 ?_
  refine gR (.int .u8 (cw (false) 2)) (fun W hk=>⟨by rw [eq_f ha];rfl,hk.below⟩)
theorem cresult_add (op a b:Int) (w:World) (h:op=11∨op=12∨op=13∨op=14):CB 178 #[.int .u8 op,.int .u8 a,.int .u8 b] w (.int .u8 (resT op a b)):=by
 have hr:resT op a b=cw (Sy.intEq a b&&numT a) a:=by
  rcases h with rfl | rfl | rfl | rfl <;> simp [resT]
 rw [hr]
 clear hr
 rcases h with rfl | rfl | rfl | rfl
 all_goals
  refine eN [.int .u8 _,.int .u8 a,.int .u8 b] Tryz.func178 (fun γ0 hγ0=>?_)
  refine rs [46] 250 30 ?_
  by_cases ha:a=b
  ·
   refine gT 45 a b ha ?_
   refine rs [] 60 3 ?_
   refine gX [.int .u8 a] (.bool (numT a)) (fun W hk=>cnumeric_any a W) ?_
   refine rs [] 60 3 ?_
   refine gX [.bool (numT a),.int .u8 a] (.int .u8 (cw (numT a) a)) (fun W hk=>cwhen_any _ _ W) ?_
   refine rs [] 60 3 ?_
   refine gR (.int .u8 (cw (numT a) a)) (fun W hk=>⟨by rw [eq_t ha];rfl,hk.below⟩)
  refine gF 45 a b ha ?_
  refine rs [] 60 3 ?_
  refine gX [.bool (false),.int .u8 a] (.int .u8 (cw (false) a)) (fun W hk=>cwhen_any _ _ W) ?_
  refine rs [] 60 3 ?_
  refine gR (.int .u8 (cw (false) a)) (fun W hk=>⟨by rw [eq_f ha];rfl,hk.below⟩)
theorem cresult_mod (op a b:Int) (w:World) (h:op=15):CB 178 #[.int .u8 op,.int .u8 a,.int .u8 b] w (.int .u8 (resT op a b)):=by
 have hr:resT op a b=cw (Sy.intEq a 1&&Sy.intEq b 1) 1:=by
  rcases h with rfl <;> simp [resT]
 rw [hr]
 clear hr
 rcases h with rfl
 refine eN [.int .u8 _,.int .u8 a,.int .u8 b] Tryz.func178 (fun γ0 hγ0=>?_)
 refine rs [56] 250 30 ?_
 by_cases ha:a=1
 ·
  refine gT 55 a 1 ha ?_
  refine rs [] 60 3 ?_
  refine gX [.bool (intEq b 1),.int .u8 1] (.int .u8 (cw (intEq b 1) 1)) (fun W hk=>cwhen_any _ _ W) ?_
  refine rs [] 60 3 ?_
  refine gR (.int .u8 (cw (intEq b 1) 1)) (fun W hk=>⟨by rw [eq_t ha];rfl,hk.below⟩)
 refine gF 55 a 1 ha ?_
 refine rs [] 60 3 ?_
 refine gX [.bool (false),.int .u8 1] (.int .u8 (cw (false) 1)) (fun W hk=>cwhen_any _ _ W) ?_
 refine rs [] 60 3 ?_
 refine gR (.int .u8 (cw (false) 1)) (fun W hk=>⟨by rw [eq_f ha];rfl,hk.below⟩)
theorem cresult_neg (op a b:Int) (w:World) (h:op=16):CB 178 #[.int .u8 op,.int .u8 a,.int .u8 b] w (.int .u8 (resT op a b)):=by
 have hr:resT op a b=cw (numT a) a:=by
  rcases h with rfl <;> simp [resT]
 rw [hr]
 clear hr
 rcases h with rfl
 refine eN [.int .u8 _,.int .u8 a,.int .u8 b] Tryz.func178 (fun γ0 hγ0=>?_)
 refine rs [] 250 30 ?_
 refine gX [.int .u8 a] (.bool (numT a)) (fun W hk=>cnumeric_any a W) ?_
 refine rs [] 60 3 ?_
 refine gX [.bool (numT a),.int .u8 a] (.int .u8 (cw (numT a) a)) (fun W hk=>cwhen_any _ _ W) ?_
 refine rs [] 60 3 ?_
 refine gR (.int .u8 (cw (numT a) a)) (fun W hk=>⟨rfl,hk.below⟩)
theorem cresult_not (op a b:Int) (w:World) (h:op=17):CB 178 #[.int .u8 op,.int .u8 a,.int .u8 b] w (.int .u8 (resT op a b)):=by
 have hr:resT op a b=cw (Sy.intEq a 2) 2:=by
  rcases h with rfl <;> simp [resT]
 rw [hr]
 clear hr
 rcases h with rfl
 refine eN [.int .u8 _,.int .u8 a,.int .u8 b] Tryz.func178 (fun γ0 hγ0=>?_)
 refine rs [] 250 30 ?_
 refine gX [.bool (intEq a 2),.int .u8 2] (.int .u8 (cw (intEq a 2) 2)) (fun W hk=>cwhen_any _ _ W) ?_
 refine rs [] 60 3 ?_
 refine gR (.int .u8 (cw (intEq a 2) 2)) (fun W hk=>⟨rfl,hk.below⟩)
theorem cresult_toint (op a b:Int) (w:World) (h:op=18):CB 178 #[.int .u8 op,.int .u8 a,.int .u8 b] w (.int .u8 (resT op a b)):=by
 have hr:resT op a b=cw (Sy.intEq a 3) 1:=by
  rcases h with rfl <;> simp [resT]
 rw [hr]
 clear hr
 rcases h with rfl
 refine eN [.int .u8 _,.int .u8 a,.int .u8 b] Tryz.func178 (fun γ0 hγ0=>?_)
 refine rs [] 250 30 ?_
 refine gX [.bool (intEq a 3),.int .u8 1] (.int .u8 (cw (intEq a 3) 1)) (fun W hk=>cwhen_any _ _ W) ?_
 refine rs [] 60 3 ?_
 refine gR (.int .u8 (cw (intEq a 3) 1)) (fun W hk=>⟨rfl,hk.below⟩)
theorem cresult_toreal (op a b:Int) (w:World) (h:op=19):CB 178 #[.int .u8 op,.int .u8 a,.int .u8 b] w (.int .u8 (resT op a b)):=by
 have hr:resT op a b=cw (Sy.intEq a 1) 3:=by
  rcases h with rfl <;> simp [resT]
 rw [hr]
 clear hr
 rcases h with rfl
 refine eN [.int .u8 _,.int .u8 a,.int .u8 b] Tryz.func178 (fun γ0 hγ0=>?_)
 refine rs [] 250 30 ?_
 refine gX [.bool (intEq a 1),.int .u8 3] (.int .u8 (cw (intEq a 1) 3)) (fun W hk=>cwhen_any _ _ W) ?_
 refine rs [] 60 3 ?_
 refine gR (.int .u8 (cw (intEq a 1) 3)) (fun W hk=>⟨rfl,hk.below⟩)
theorem cresult_any (op a b:Int) (w:World) (h:3≤op∧op≤19):CB 178 #[.int .u8 op,.int .u8 a,.int .u8 b] w (.int .u8 (resT op a b)):=by
 have h':(op=3∨op=4)∨(op=5∨op=6)∨(op=7∨op=8∨op=9∨op=10)∨(op=11∨op=12∨op=13∨op=14)∨op=15∨op=16∨op=17∨op=18∨op=19:=by omega
 rcases h' with h | h | h | h | h | h | h | h | h
 · exact cresult_or op a b w h
 · exact cresult_eq op a b w h
 · exact cresult_lt op a b w h
 · exact cresult_add op a b w h
 · exact cresult_mod op a b w h
 · exact cresult_neg op a b w h
 · exact cresult_not op a b w h
 · exact cresult_toint op a b w h
 · exact cresult_toreal op a b w h
end
section
noncomputable def realP (b:Nat):Option (List UInt8):=open Classical in if h:∃ t,PSpec (toN b) t 0 then some h.choose else none
theorem realP_ok {b:Nat} {t:List UInt8} (h:PSpec (toN b) t 0):realP b=some t:=by
 unfold realP
 have hx:∃ t,PSpec (toN b) t 0:=⟨t,h⟩
 rw [dif_pos hx]
 exact congrArg some (hx.choose_spec.uniq h).1
theorem realP_no {b:Nat} {t:List UInt8} {z:Int} (h:PSpec (toN b) t z) (hz:z≠0):realP b=none:=by
 unfold realP
 rw [dif_neg]
 rintro ⟨s,hs⟩
 exact hz (hs.uniq h).2.symm
def nanBits:Int:=9221120237041090560
def infBits:Int:=9218868437227405312
def signBits:Int:=9223372036854775808
noncomputable def litT (ty bits:Int):Option (List UInt8):=
 if ty=1 then (if bits<signBits then some (Lib.decDigits bits.toNat) else none)
 else if ty=2 then (if bits=1 then some [116,114,117,101] else if bits=0 then some [102,97,108,115,101] else none)
 else if ty=3 then (if bits=nanBits then some [110,97,110] else if bits=infBits then some [105,110,102] else if bits<signBits then realP bits.toNat else none)
 else none
noncomputable def valT (ty bits:Int):Option (List UInt8):=
 if ty=1 then (if bits<signBits then some (Lib.decDigits bits.toNat) else if bits=signBits then none else some (45::Lib.decDigits (18446744073709551616 - bits).toNat))
 else if ty=3 then (if bits<signBits then litT 3 bits else if bits - signBits=nanBits then none else (litT 3 (bits - signBits)).map (45::·))
 else litT ty bits
def signT (op:Int):List UInt8:=
 if op=3 then [124,124] else if op=4 then [38,38] else if op=5 then [61,61] else if op=6 then [33,61] else if op=7 then [60] else if op=8 then [60,61] else if op=9 then [62] else if op=10 then [62,61]
 else if op=11 then [43] else if op=12 then [45] else if op=13 then [42] else if op=14 then [47] else if op=15 then [37] else []
mutual
noncomputable def exT:Ex→Option (List UInt8)
 | .mk op ty bits name kids=>
   if (op≠1∧¬ (ty=0∧bits=0))∨(op≠2∧name≠[]) then none
   else match exTs kids with
    | none=>none
    | some ks=>
      if op=1 then (match ks with | []=>litT ty bits | _=>none)
      else if op=2 then (match ks with | []=>if nameB name=true then some name else none | _=>none)
      else if 3≤op∧op≤15 then (match ks with | [a,b]=>some (40::(a++(32::(signT op++(32::(b++[41])))))) | _=>none)
      else if op=16 then (match ks with | [a]=>some (45::a) | _=>none)
      else if op=17 then (match ks with | [a]=>some (33::a) | _=>none)
      else if op=18 then (match ks with | [a]=>some ([105,110,116,40]++(a++[41])) | _=>none)
      else if op=19 then (match ks with | [a]=>some ([114,101,97,108,40]++(a++[41])) | _=>none)
      else none
noncomputable def exTs:List Ex→Option (List (List UInt8))
 | []=>some []
 | e::l=>match exT e with
   | none=>none
   | some t=>match exTs l with
     | none=>none
     | some ts=>some (t::ts)
end
noncomputable def ex32 (e:Ex):Option (List UInt8):=if hgt e≤32 then exT e else none
def exNone:Ex→Bool
 | .mk op ty bits name kids=>decide (op=0∧ty=0∧bits=0∧name=[]∧kids.length=0)
def margT (deep:Nat):List UInt8:=(List.replicate (deep+1) [32,32]).flatten
mutual
noncomputable def stT (deep:Nat):St→Option (List UInt8)
 | .mk kind name e body els=>
   if kind=1 then (if nameB name=true∧body.length=0∧els.length=0 then (ex32 e).map fun t=>margT deep++(name++([32,61,32]++(t++[59,10]))) else none)
   else if kind=2 then (if nameB name=true∧exNone e=true∧body.length=0∧els.length=0 then some (margT deep++([108,111,99,107,32]++(name++[59,10]))) else none)
   else if kind=3 then (if nameB name=true∧exNone e=true∧body.length=0∧els.length=0 then some (margT deep++([117,110,108,111,99,107,32]++(name++[59,10]))) else none)
   else if kind=4 then (if name=[]∧body.length=0∧els.length=0 then (ex32 e).map fun t=>margT deep++([97,115,115,101,114,116,32]++(t++[59,10])) else none)
   else if kind=7 then (if name=[]∧exNone e=true∧body.length=0∧els.length=0 then some (margT deep++[115,107,105,112,59,10]) else none)
   else if kind=5∨kind=6 then
    match stsT (deep+1) body,stsT (deep+1) els,ex32 e with
    | some b,some l,some t=>
      if name≠[]∨(kind=6∧0<els.length) then none
      else if kind=6 then some (margT deep++([119,104,105,108,101,32]++(t++([32,123,10]++(b++(margT deep++[125,10]))))))
      else if 0<els.length then some (margT deep++([105,102,32]++(t++([32,123,10]++(b++(margT deep++([125,32,101,108,115,101,32,123,10]++(l++(margT deep++[125,10])))))))))
      else some (margT deep++([105,102,32]++(t++([32,123,10]++(b++(margT deep++[125,10]))))))
    | _,_,_=>none
   else none
noncomputable def stsT (deep:Nat):List St→Option (List UInt8)
 | []=>some []
 | s::l=>if 32<deep then none else match stT deep s with
   | none=>none
   | some t=>match stsT deep l with
     | none=>none
     | some ts=>some (t++ts)
end
def typT (ty:Int):List UInt8:=if ty=2 then [98,111,111,108] else if ty=3 then [114,101,97,108] else [105,110,116]
noncomputable def vrT (word:List UInt8) (v:Vr):Option (List UInt8):=
 if nameB v.name=true then (valT v.ty v.bits).map fun t=>word++(32::(v.name++(32::(typT v.ty++([32,61,32]++(t++[59,10]))))) ) else none
def allT {α:Type} (f:α→Option (List UInt8)):List α→Option (List UInt8)
 | []=>some []
 | x::l=>match f x with
   | none=>none
   | some t=>match allT f l with
     | none=>none
     | some ts=>some (t++ts)
def mxT (m:List UInt8):Option (List UInt8):=if nameB m=true then some ([109,117,116,101,120,32]++(m++[59,10])) else none
noncomputable def thT (t:Th):Option (List UInt8):=
 match allT (vrT [32,32,108,111,99,97,108]) t.locals,stsT 0 t.body with
 | some a,some b=>if nameB t.name=true then some ([116,104,114,101,97,100,32]++(t.name++([32,123,10]++(a++(b++[125,10]))))) else none
 | _,_=>none
noncomputable def pgT (p:Pg):Option (List UInt8):=
 match allT (vrT [115,104,97,114,101,100]) p.shared,allT mxT p.mutexes,allT thT p.threads with
 | some a,some b,some c=>some (a++(b++c))
 | _,_,_=>none
noncomputable def printS (p:Pg):List UInt8:=match pgT p with
 | none=>[]
 | some t=>if 16384<t.length then [] else t
noncomputable def printE (p:Pg):Int:=match pgT p with
 | none=>2
 | some t=>if 16384<t.length then 3 else 0
theorem allT_app {α:Type} (f:α→Option (List UInt8)):∀ (l r:List α),allT f (l++r)=match allT f l,allT f r with
  | some a,some b=>some (a++b)
  | _,_=>none
 | [],r=>by
   simp only [List.nil_append,allT]
   cases allT f r <;> simp
 | x::l,r=>by
   simp only [List.cons_append,allT]
   rw [allT_app f l r]
   cases f x with
   | none=>rfl
   | some a=>
     cases allT f l with
     | none=>rfl
     | some b=>
       cases allT f r with
       | none=>rfl
       | some c=>simp
theorem stsT_all (deep:Nat):∀ (l:List St),stsT deep l=if 32<deep∧0<l.length then none else allT (stT deep) l
 | []=>by simp [stsT,allT]
 | s::l=>by
   simp only [stsT,allT]
   rw [stsT_all deep l]
   by_cases h:32<deep
   · simp [h]
   · simp [h]
theorem exTs_len:∀ {l:List Ex} {ks:List (List UInt8)},exTs l=some ks→ks.length=l.length
 | [],ks,h=>by
   simp only [exTs,Option.some.injEq] at h
   subst h
   rfl
 | e::l,ks,h=>by
   simp only [exTs] at h
   split at h
   · cases h
   split at h
   · cases h
   rename_i h1
   injection h with h
   subst h
   simp [exTs_len h1]
end
section
set_option maxRecDepth 100000
def kidsN (op:Int):Int:=if op=1∨op=2 then 0 else if 3≤op∧op≤15 then 2 else if 16≤op∧op≤19 then 1 else -1
theorem kids_any (op:Int) (w:World):CP 130 #[.int .u8 op] w (.int .i64 (kidsN op)):=by
 go_enter Tryz.func130,Tryz.ntmps130
 go_wp2
 all_goals
  go_ret
  refine ⟨ret_int ?_,rfl⟩
  simp only [kidsN]
  (try simp only [decide_eq_true_eq,decide_eq_false_iff_not,beq_iff_eq,bne_iff_ne,Bool.not_eq_true,beq_eq_false_iff_ne] at *)
  repeat' split
  all_goals first | omega | simp_all
def psignT (op:Int):List UInt8:=if op=16 then [45] else if op=17 then [33] else signT op
open Go.Sy
theorem psign_any (op:Int) (w:World):CB 133 #[.int .u8 op] w (nT (psignT op)):=by
 refine eN [.int .u8 op] Tryz.func133 (fun γ0 hγ0=>?_)
 refine rk ?_
 by_cases h3:op=3
 ·
  refine kz op 3 h3 ?_
  refine rs [] 60 3 ?_
  refine gR (nT [124,124]) (fun W hk=>⟨?_,hk.below⟩)
  subst h3
  rfl
 refine kw op 3 h3 ?_
 refine rk ?_
 by_cases h4:op=4
 ·
  refine kz op 4 h4 ?_
  refine rs [] 60 3 ?_
  refine gR (nT [38,38]) (fun W hk=>⟨?_,hk.below⟩)
  subst h4
  rfl
 refine kw op 4 h4 ?_
 refine rk ?_
 by_cases h5:op=5
 ·
  refine kz op 5 h5 ?_
  refine rs [] 60 3 ?_
  refine gR (nT [61,61]) (fun W hk=>⟨?_,hk.below⟩)
  subst h5
  rfl
 refine kw op 5 h5 ?_
 refine rk ?_
 by_cases h6:op=6
 ·
  refine kz op 6 h6 ?_
  refine rs [] 60 3 ?_
  refine gR (nT [33,61]) (fun W hk=>⟨?_,hk.below⟩)
  subst h6
  rfl
 refine kw op 6 h6 ?_
 refine rk ?_
 by_cases h7:op=7
 ·
  refine kz op 7 h7 ?_
  refine rs [] 60 3 ?_
  refine gR (nT [60]) (fun W hk=>⟨?_,hk.below⟩)
  subst h7
  rfl
 refine kw op 7 h7 ?_
 refine rk ?_
 by_cases h8:op=8
 ·
  refine kz op 8 h8 ?_
  refine rs [] 60 3 ?_
  refine gR (nT [60,61]) (fun W hk=>⟨?_,hk.below⟩)
  subst h8
  rfl
 refine kw op 8 h8 ?_
 refine rk ?_
 by_cases h9:op=9
 ·
  refine kz op 9 h9 ?_
  refine rs [] 60 3 ?_
  refine gR (nT [62]) (fun W hk=>⟨?_,hk.below⟩)
  subst h9
  rfl
 refine kw op 9 h9 ?_
 refine rk ?_
 by_cases h10:op=10
 ·
  refine kz op 10 h10 ?_
  refine rs [] 60 3 ?_
  refine gR (nT [62,61]) (fun W hk=>⟨?_,hk.below⟩)
  subst h10
  rfl
 refine kw op 10 h10 ?_
 refine rk ?_
 by_cases h11:op=11
 ·
  refine kz op 11 h11 ?_
  refine rs [] 60 3 ?_
  refine gR (nT [43]) (fun W hk=>⟨?_,hk.below⟩)
  subst h11
  rfl
 refine kw op 11 h11 ?_
 refine rk ?_
 by_cases h12:op=12
 ·
  refine kz op 12 h12 ?_
  refine rk ?_
  refine kz op 12 h12 ?_
  refine rs [] 60 3 ?_
  refine gR (nT [45]) (fun W hk=>⟨?_,hk.below⟩)
  subst h12
  rfl
 refine kw op 12 h12 ?_
 refine rk ?_
 by_cases h16:op=16
 ·
  refine kz op 16 h16 ?_
  refine rs [] 60 3 ?_
  refine gR (nT [45]) (fun W hk=>⟨?_,hk.below⟩)
  subst h16
  rfl
 refine kw op 16 h16 ?_
 refine rk ?_
 by_cases h13:op=13
 ·
  refine kz op 13 h13 ?_
  refine rs [] 60 3 ?_
  refine gR (nT [42]) (fun W hk=>⟨?_,hk.below⟩)
  subst h13
  rfl
 refine kw op 13 h13 ?_
 refine rk ?_
 by_cases h14:op=14
 ·
  refine kz op 14 h14 ?_
  refine rs [] 60 3 ?_
  refine gR (nT [47]) (fun W hk=>⟨?_,hk.below⟩)
  subst h14
  rfl
 refine kw op 14 h14 ?_
 refine rk ?_
 by_cases h15:op=15
 ·
  refine kz op 15 h15 ?_
  refine rs [] 60 3 ?_
  refine gR (nT [37]) (fun W hk=>⟨?_,hk.below⟩)
  subst h15
  rfl
 refine kw op 15 h15 ?_
 refine rk ?_
 by_cases h17:op=17
 ·
  refine kz op 17 h17 ?_
  refine rs [] 60 3 ?_
  refine gR (nT [33]) (fun W hk=>⟨?_,hk.below⟩)
  subst h17
  rfl
 refine kw op 17 h17 ?_
 refine rk ?_
 refine gR (nT []) (fun W hk=>⟨?_,hk.below⟩)
 simp [psignT,signT,h3,h4,h5,h6,h7,h8,h9,h10,h11,h12,h16,h13,h14,h15,h17]
def ptypT (ty:Int):List UInt8:=if ty=1 then [105,110,116] else if ty=2 then [98,111,111,108] else [114,101,97,108]
theorem ptype_any (ty:Int) (w:World):CB 124 #[.int .u8 ty] w (nT (ptypT ty)):=by
 refine eN [.int .u8 ty] Tryz.func124 (fun γ0 hγ0=>?_)
 refine rk ?_
 by_cases h1:ty=1
 ·
  refine kz ty 1 h1 ?_
  refine rs [] 60 3 ?_
  refine gR (nT [105,110,116]) (fun W hk=>⟨?_,hk.below⟩)
  subst h1
  rfl
 refine kw ty 1 h1 ?_
 refine rk ?_
 by_cases h2:ty=2
 ·
  refine kz ty 2 h2 ?_
  refine rs [] 60 3 ?_
  refine gR (nT [98,111,111,108]) (fun W hk=>⟨?_,hk.below⟩)
  subst h2
  rfl
 refine kw ty 2 h2 ?_
 refine rk ?_
 refine gR (nT [114,101,97,108]) (fun W hk=>⟨?_,hk.below⟩)
 simp [ptypT,h1,h2]
end
end Go.Proofs.YtiacalnkmnckjaaGreatDoor
