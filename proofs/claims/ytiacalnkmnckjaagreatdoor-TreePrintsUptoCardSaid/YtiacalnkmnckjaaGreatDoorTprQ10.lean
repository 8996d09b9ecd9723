/- Texts of this proof, one behind the other. Conditions: those in each theorem. -/
import Derived.Test.YtiacalnkmnckjaaGreatDoorTprQ9
import Derived.Test.YtiacalnkmnckjaaGreatDoorTprQ3
import Derived.Deep.Slices
import Derived.Handy
import Derived.Test.YtiacalnkmnckjaaGreatDoorTprQ8
set_option linter.unusedVariables false
set_option linter.unusedSimpArgs false
section
namespace Go.Proofs.YtiacalnkmnckjaaGreatDoor
open Go.RowKit Go.As Go.WideShapes Go.ChangeShapes
theorem bulk_pos {H:Type} (d:DataW H):1≤Rows.uptoBulk d:=by
 cases d with
 | lit l=>cases l <;> simp [Rows.uptoBulk]
 | nil=>simp [Rows.uptoBulk]
 | ptr d=>simp [Rows.uptoBulk]
 | slice elems spare=>simp [Rows.uptoBulk]
 | agg parts=>simp [Rows.uptoBulk]
 | iface t d=>simp [Rows.uptoBulk]
 | map entries=>simp [Rows.uptoBulk]
 | held h=>simp [Rows.uptoBulk]
theorem bulk_app {H:Type} (l r:List (DataW H)):Rows.uptoBulkAll (l++r)=Rows.uptoBulkAll l+Rows.uptoBulkAll r:=by
 induction l with
 | nil=>simp [Rows.uptoBulkAll]
 | cons x l ih=>simp only [List.cons_append,Rows.uptoBulkAll,ih];omega
theorem bulk_mem {H:Type} {d:DataW H} {l:List (DataW H)} (h:d∈l):Rows.uptoBulk d≤Rows.uptoBulkAll l:=by
 induction l with
 | nil=>cases h
 | cons x r ih=>
   simp only [Rows.uptoBulkAll]
   cases List.mem_cons.1 h with
   | inl e=>subst e;omega
   | inr e=>have:=ih e;omega
def sumN {α:Type} (μ:α→Nat):List α→Nat
 | []=>0
 | x::l=>μ x+sumN μ l
theorem sumN_app {α:Type} (μ:α→Nat):∀ (l r:List α),sumN μ (l++r)=sumN μ l+sumN μ r
 | [],r=>by simp [sumN]
 | x::l,r=>by
   rw [List.cons_append]
   simp only [sumN]
   rw [sumN_app μ l r]
   omega
theorem wf_u8 {n:Int} (h:(Lit.int .u8 n).wf=true):0≤n∧n<256:=by
 simp only [Lit.wf,decide_eq_true_eq,Bool.and_eq_true] at h
 have h1:IntKind.u8.min=0:=by decide
 have h2:IntKind.u8.max=255:=by decide
 omega
theorem wf_u64 {n:Int} (h:(Lit.int .u64 n).wf=true):0≤n∧n<18446744073709551616:=by
 simp only [Lit.wf,decide_eq_true_eq,Bool.and_eq_true] at h
 have h1:IntKind.u64.min=0:=by decide
 have h2:IntKind.u64.max=18446744073709551615:=by decide
 omega
theorem wf_i64 {n:Int} (h:(Lit.int .i64 n).wf=true) : -9223372036854775808≤n∧n<9223372036854775808:=by
 simp only [Lit.wf,decide_eq_true_eq,Bool.and_eq_true] at h
 have h1:IntKind.i64.min = -9223372036854775808:=by decide
 have h2:IntKind.i64.max=9223372036854775807:=by decide
 omega
section
variable {H:Type} {enc:TypeId×Value→H} {w:World}
theorem open_ls {P:Program} {α:Type} {held:Bool} {t e:TypeId} {fuel sz:Nat} {cs:List Value} {d:DataW H} {p:List MemPlace} (A:α→List Value→Prop) (μ:α→Nat)
  (ht:P.underlying t=some (.slice e)) (hc:P.cellsOf e=sz) (hsz:0<sz)
  (hf:DataW.trod enc P w 0 (fun _=>true) held fuel t cs=some (d,p))
  (hdec:∀ n cs d' p',Rows.uptoBulk d'<Rows.uptoBulk d→cs.length=sz→DataW.trod enc P w 0 (fun _=>true) held n e cs=some (d',p')→∃ x,A x cs∧μ x≤Rows.uptoBulk d'):
  ∃ (a:Option Addr) (n c:Nat) (xs:List Value) (L:List α),cs=[.slice a n c]∧n≤c∧c≤maxLen∧L.length=n∧Sy.SlAt (·<w.heap.size) w a n sz xs∧LsAt A L xs∧sumN μ L+1≤Rows.uptoBulk d:=by
 subst hc
 rcases Go.Deep.open_slice ht hf with ⟨hcs,hx⟩ | ⟨a,len,cap,m,n,D,Pl,hcs,-,hl,hm,hmm,hx,hi⟩
 · injection hx with hd hp
   subst hd
   exact ⟨none,0,0,[],[],hcs,Nat.le_refl _,by simp [maxLen],rfl,⟨by simp,.inl rfl⟩,rfl,by simp [sumN,Rows.uptoBulk]⟩
 · simp only [if_true] at hmm
   subst hmm
   injection hx with hd hp
   have hbd:Rows.uptoBulkAll ((List.range len).map D)+1≤Rows.uptoBulk d:=by
    rw [hd]
    simp only [Rows.uptoBulk]
    omega
   have key:∀ k,k≤len→∃ (xs:List Value) (L:List α),L.length=k∧xs.length=k*P.cellsOf e∧LsAt A L xs∧sumN μ L≤Rows.uptoBulkAll ((List.range k).map D)∧∀ j u,xs[j]?=some u→w.cell? (a.add j)=some u:=by
    intro k
    induction k with
    | zero=>intro _;exact ⟨[],[],rfl,by simp,rfl,by simp [sumN],by simp⟩
    | succ k ih=>
      intro hk
      obtain ⟨xs,L,h1,h2,h3,h4,h5⟩:=ih (by omega)
      obtain ⟨cs',hc1,hc2⟩:=hi k (by omega)
      obtain ⟨-,hcl,hat⟩:=World.cells?_some hc1
      have hlt:Rows.uptoBulk (D k)<Rows.uptoBulk d:=by
       have:=bulk_mem (l:=(List.range len).map D) (d:=D k) (List.mem_map.2 ⟨k,List.mem_range.2 (by omega),rfl⟩)
       omega
      obtain ⟨x,hx1,hx2⟩:=hdec _ _ _ _ hlt hcl hc2
      refine ⟨xs++cs',L++[x],by simp [h1],by rw [List.length_append,h2,hcl,Nat.add_mul];omega,LsAt.snoc h3 hx1,?_,?_⟩
      · rw [List.range_succ,List.map_append,bulk_app,sumN_app]
        simp only [List.map_cons,List.map_nil,Rows.uptoBulkAll,sumN]
        omega
      · intro j u hu
        rcases Nat.lt_or_ge j xs.length with hj | hj
        · rw [List.getElem?_append_left (by omega)] at hu
          exact h5 j u hu
        · rw [List.getElem?_append_right (by omega),h2] at hu
          have hj2:j - k*P.cellsOf e<P.cellsOf e:=by
           have:=(List.getElem?_eq_some_iff.1 hu).1
           omega
          have:=hat _ hj2
          rw [add_add',show k*P.cellsOf e+(j - k*P.cellsOf e)=j by omega] at this
          rw [this,hu]
   obtain ⟨xs,L,h1,h2,h3,h4,h5⟩:=key len (Nat.le_refl _)
   refine ⟨some a,len,_,xs,L,hcs,hl,hm,h1,⟨h2,?_⟩,h3,by omega⟩
   cases len with
   | zero=>exact .inl rfl
   | succ q=>
     have hpos:0<xs.length:=by rw [h2];exact Nat.mul_pos (Nat.succ_pos _) hsz
     have h0:=h5 0 _ (List.getElem?_eq_getElem hpos)
     have hspot:a.spot=none:=by
      have e0:a.add 0=a:=by simp [Addr.add]
      rw [e0] at h0
      unfold World.cell? at h0
      split at h0
      · split at h0
        · cases h0
        · rename_i hn
          cases hs:a.spot with
          | none=>rfl
          | some s=>rw [hs] at hn;simp at hn
      · cases h0
     have ha:a=⟨a.block,a.off,none⟩:=by rw [← hspot]
     refine .inr ⟨congrArg some ha,?_,fun j v hv=>?_⟩
     · have:=World.block_lt_of_cell? w _ h0
       rwa [blk_add] at this
     · have:=h5 j v hv
       rw [ha,Addr.add_mid] at this
       exact this
end
-- sizes: names' letters,and what stands
mutual
def exB:Ex→Nat
 | .mk _ _ _ name kids=>name.length+5+exBs kids
def exBs:List Ex→Nat
 | []=>0
 | e::l=>exB e+exBs l
end
mutual
def exR:Ex→Prop
 | .mk op ty bits _ kids=>(0≤op∧op<256)∧(0≤ty∧ty<256)∧(0≤bits∧bits<18446744073709551616)∧exRs kids
def exRs:List Ex→Prop
 | []=>True
 | e::l=>exR e∧exRs l
end
theorem exRs_mem:∀ {l:List Ex},exRs l↔∀ e∈l,exR e
 | []=>by simp [exRs]
 | e::l=>by simp [exRs,exRs_mem]
theorem exBs_sum:∀ (l:List Ex),exBs l=sumN exB l
 | []=>rfl
 | e::l=>by simp only [exBs,sumN];rw [exBs_sum l]
mutual
theorem wgt_exB:∀ (e:Ex),wgt e≤exB e
 | .mk _ _ _ _ k=>by simp only [wgt,exB];have:=wgts_exBs k;omega
theorem wgts_exBs:∀ (l:List Ex),wgts l≤exBs l
 | []=>Nat.le_refl _
 | e::l=>by simp only [wgts,exBs];have:=wgt_exB e;have:=wgts_exBs l;omega
end
mutual
def stB:St→Nat
 | .mk _ name e b l=>name.length+1+exB e+stBs b+stBs l
def stBs:List St→Nat
 | []=>0
 | s::l=>stB s+stBs l
end
mutual
def stR:St→Prop
 | .mk kind _ e b l=>(-9223372036854775808≤kind∧kind<9223372036854775808)∧exR e∧stRs b∧stRs l
def stRs:List St→Prop
 | []=>True
 | s::l=>stR s∧stRs l
end
theorem stRs_mem:∀ {l:List St},stRs l↔∀ e∈l,stR e
 | []=>by simp [stRs]
 | e::l=>by simp [stRs,stRs_mem]
theorem stBs_sum:∀ (l:List St),stBs l=sumN stB l
 | []=>rfl
 | e::l=>by simp only [stBs,sumN];rw [stBs_sum l]
mutual
theorem swt_stB:∀ (s:St),swt s≤stB s
 | .mk _ _ e b l=>by simp only [swt,stB];have:=wgt_exB e;have:=swts_stBs b;have:=swts_stBs l;omega
theorem swts_stBs:∀ (l:List St),swts l≤stBs l
 | []=>Nat.le_refl _
 | s::l=>by simp only [swts,stBs];have:=swt_stB s;have:=swts_stBs l;omega
end
def vrB (v:Vr):Nat:=v.name.length+1
def vrR (v:Vr):Prop:=(0≤v.ty∧v.ty<256)∧0≤v.bits∧v.bits<18446744073709551616
def txB (s:List UInt8):Nat:=s.length+1
def thB (t:Th):Nat:=t.name.length+1+sumN vrB t.locals+stBs t.body
def thR (t:Th):Prop:=(∀ v∈t.locals,vrR v)∧stRs t.body
def pgB (p:Pg):Nat:=sumN vrB p.shared+sumN txB p.mutexes+sumN thB p.threads
def pgR (p:Pg):Prop:=(∀ v∈p.shared,vrR v)∧∀ t∈p.threads,thR t
theorem len_sumN {α:Type} {μ:α→Nat} (h:∀ x,1≤μ x):∀ (l:List α),l.length≤sumN μ l
 | []=>Nat.le_refl _
 | x::l=>by simp only [sumN,List.length_cons];have:=h x;have:=len_sumN h l;omega
theorem thws_thB:∀ (l:List Th),thws l≤sumN thB l
 | []=>Nat.le_refl _
 | t::l=>by
   simp only [thws,sumN,thw,thB]
   have:=thws_thB l
   have:=len_sumN (μ:=vrB) (fun v=>by unfold vrB;omega) t.locals
   have:=swts_stBs t.body
   omega
theorem pwt_pgB (p:Pg):pwt p≤pgB p:=by
 unfold pwt pgB
 have:=thws_thB p.threads
 have:=len_sumN (μ:=vrB) (fun v=>by unfold vrB;omega) p.shared
 have:=len_sumN (μ:=txB) (fun v=>by unfold txB;omega) p.mutexes
 omega
theorem sumN_mem {α:Type} {μ:α→Nat} {x:α}:∀ {l:List α},x∈l→μ x≤sumN μ l
 | y::l,h=>by
   simp only [sumN]
   rcases List.mem_cons.1 h with rfl | h
   · omega
   · have:=sumN_mem (μ:=μ) h;omega
section
variable {H:Type} {enc:TypeId×Value→H} {w:World} {held:Bool}
theorem list5 {α:Type} {cs:List α} (h:cs.length=5):∃ a b c d e,cs=[a,b,c,d,e]:=by
 match cs,h with
 | [a,b,c,d,e],_=>exact ⟨a,b,c,d,e,rfl⟩
theorem list4 {α:Type} {cs:List α} (h:cs.length=4):∃ a b c d,cs=[a,b,c,d]:=by
 match cs,h with
 | [a,b,c,d],_=>exact ⟨a,b,c,d,rfl⟩
theorem list3 {α:Type} {cs:List α} (h:cs.length=3):∃ a b c,cs=[a,b,c]:=by
 match cs,h with
 | [a,b,c],_=>exact ⟨a,b,c,rfl⟩
theorem list2 {α:Type} {cs:List α} (h:cs.length=2):∃ a b,cs=[a,b]:=by
 match cs,h with
 | [a,b],_=>exact ⟨a,b,rfl⟩
theorem list9 {α:Type} {cs:List α} (h:cs.length=9):∃ a b c d e f g i j,cs=[a,b,c,d,e,f,g,i,j]:=by
 match cs,h with
 | [a,b,c,d,e,f,g,i,j],_=>exact ⟨a,b,c,d,e,f,g,i,j,rfl⟩
set_option maxRecDepth 100000 in
theorem cell1:Tryz.prog.cellsOf 27=1∧Tryz.prog.cellsOf 28=1∧Tryz.prog.cellsOf 29=1∧Tryz.prog.cellsOf 9=1∧Tryz.prog.cellsOf 3=1∧Tryz.prog.cellsOf 32=1∧Tryz.prog.cellsOf 54=1∧Tryz.prog.cellsOf 22=1∧Tryz.prog.cellsOf 23=1∧Tryz.prog.cellsOf 24=1:=by
 refine ⟨?_,?_,?_,?_,?_,?_,?_,?_,?_,?_⟩ <;> kernel_rfl
theorem cell2:Tryz.prog.cellsOf 31=2∧Tryz.prog.cellsOf 34=5∧Tryz.prog.cellsOf 56=9∧Tryz.prog.cellsOf 67=3∧Tryz.prog.cellsOf 58=3∧Tryz.prog.cellsOf 26=3:=by
 refine ⟨?_,?_,?_,?_,?_,?_⟩ <;> kernel_rfl
theorem open_parts {P:Program} {t:TypeId} {fs:Array Field} {fuel:Nat} {cs:List Value} {d:DataW H} {p:List MemPlace} (ht:P.underlying t=some (.struct fs)) (h:DataW.trod enc P w 0 (fun _=>true) held fuel t cs=some (d,p)):
  ∃ (ds:List (DataW H)),Rows.uptoBulk d=Rows.uptoBulkAll ds+1∧ds.length=fs.size∧cs.length=P.cellsOf t∧∀ (i:Nat) (f:Field),fs[i]?=some f→∃ n di q,ds[i]?=some di∧DataW.trod enc P w 0 (fun _=>true) held n f.type ((cs.drop f.offset).take (P.cellsOf f.type))=some (di,q):=by
 obtain ⟨xs,n,-,hx,hl,hlen,hfs⟩:=DataW.trod_struct ht h
 injection hx with h1 h2
 refine ⟨xs.map (·.1),by rw [h1];simp [Rows.uptoBulk],by simp [hlen],hl,fun i f hf=>?_⟩
 have:=hfs i f hf
 have hi:i<xs.length:=by rw [hlen];exact (Array.getElem?_eq_some_iff.1 hf).1
 rw [List.getElem?_eq_getElem hi] at this
 exact ⟨n,xs[i].1,xs[i].2,by simp [List.getElem?_eq_getElem hi],this⟩
theorem LsAt.both {α:Type} {A:α→List Value→Prop} {R:α→Prop}:∀ {l:List α} {xs:List Value},LsAt (fun x c=>A x c∧R x) l xs→LsAt A l xs∧∀ x∈l,R x
 | [],xs,h=>⟨h,fun x hx=>by cases hx⟩
 | e::l,xs,⟨c,r,h1,h2,h3⟩=>by
   obtain ⟨h4,h5⟩:=LsAt.both h3
   exact ⟨⟨c,r,h1,h2.1,h4⟩,fun x hx=>by
    rcases List.mem_cons.1 hx with rfl | hx
    · exact h2.2
    · exact h5 x hx⟩
set_option maxRecDepth 100000 in
theorem val_open {n:Nat} {cs:List Value} {d:DataW H} {p:List MemPlace} (h:DataW.trod enc Tryz.prog w 0 (fun _=>true) held n 31 cs=some (d,p)):
  ∃ ty bits,cs=[.int .u8 ty,.int .u64 bits]∧(0≤ty∧ty<256)∧(0≤bits∧bits<18446744073709551616)∧Rows.uptoBulk d=3:=by
 obtain ⟨ds,hb,hl,hcl,hf⟩:=open_parts Tryz.underlying31 h
 obtain ⟨c0,c1,rfl⟩:=list2 (hcl.trans cell2.1)
 obtain ⟨n0,d0,q0,e0,h0⟩:=hf 0 _ rfl
 obtain ⟨n1,d1,q1,e1,h1⟩:=hf 1 _ rfl
 obtain ⟨x0,x1,rfl⟩:=list2 (hl.trans rfl)
 simp only [List.getElem?_cons_zero,List.getElem?_cons_succ,Option.some.injEq] at e0 e1
 subst e0 e1
 have h0:DataW.trod enc Tryz.prog w 0 (fun _=>true) held n0 28 [c0]=some (x0,q0):=by simpa [cell1.2.1] using h0
 have h1:DataW.trod enc Tryz.prog w 0 (fun _=>true) held n1 29 [c1]=some (x1,q1):=by simpa [cell1.2.2.1] using h1
 obtain ⟨ty,g1,g2,g3⟩:=DataW.trod_int Tryz.underlying28 h0
 obtain ⟨bits,k1,k2,k3⟩:=DataW.trod_int Tryz.underlying29 h1
 injection g1 with g1;injection k1 with k1;injection g2 with g2;injection k2 with k2
 subst g1 k1 g2 k2
 exact ⟨ty,bits,rfl,wf_u8 g3,wf_u64 k3,by rw [hb];simp [Rows.uptoBulkAll,Rows.uptoBulk]⟩
theorem str_open {n:Nat} {cs:List Value} {d:DataW H} {p:List MemPlace} (h:DataW.trod enc Tryz.prog w 0 (fun _=>true) held n 9 cs=some (d,p)):
  ∃ l:List UInt8,cs=[.string (str l)]∧Rows.uptoBulk d=l.length+1:=by
 obtain ⟨s,h1,h2,h3⟩:=DataW.trod_string Tryz.underlying9 h
 obtain ⟨l,rfl⟩:=exists_str s
 injection h2 with h2
 exact ⟨l,h1,by rw [h2];simp [Rows.uptoBulk,str_data]⟩
set_option maxRecDepth 100000 in
theorem ex_open:∀ (b:Nat) {n:Nat} {cs:List Value} {d:DataW H} {p:List MemPlace},Rows.uptoBulk d<b→DataW.trod enc Tryz.prog w 0 (fun _=>true) held n 34 cs=some (d,p)→
  ∃ e,ExAt (·<w.heap.size) w e cs∧exR e∧exB e≤Rows.uptoBulk d:=by
 intro b
 induction b with
 | zero=>intro n cs d p h;omega
 | succ b ih=>
   intro n cs d p hbd h
   obtain ⟨ds,hb,hl,hcl,hf⟩:=open_parts Tryz.underlying34 h
   obtain ⟨c0,c1,c2,c3,c4,rfl⟩:=list5 (hcl.trans cell2.2.1)
   obtain ⟨n0,d0,q0,e0,h0⟩:=hf 0 _ rfl
   obtain ⟨n1,d1,q1,e1,h1⟩:=hf 1 _ rfl
   obtain ⟨n2,d2,q2,e2,h2⟩:=hf 2 _ rfl
   obtain ⟨n3,d3,q3,e3,h3⟩:=hf 3 _ rfl
   obtain ⟨x0,x1,x2,x3,rfl⟩:=list4 (hl.trans rfl)
   simp only [List.getElem?_cons_zero,List.getElem?_cons_succ,Option.some.injEq] at e0 e1 e2 e3
   subst e0 e1 e2 e3
   have h0:DataW.trod enc Tryz.prog w 0 (fun _=>true) held n0 27 [c0]=some (x0,q0):=by simpa [cell1.1] using h0
   have h1:DataW.trod enc Tryz.prog w 0 (fun _=>true) held n1 31 [c1,c2]=some (x1,q1):=by simpa [cell2.1] using h1
   have h2:DataW.trod enc Tryz.prog w 0 (fun _=>true) held n2 9 [c3]=some (x2,q2):=by simpa [cell1.2.2.2.1] using h2
   have h3:DataW.trod enc Tryz.prog w 0 (fun _=>true) held n3 32 [c4]=some (x3,q3):=by simpa [cell1.2.2.2.2.2.1] using h3
   obtain ⟨op,g1,g2,g3⟩:=DataW.trod_int Tryz.underlying27 h0
   obtain ⟨ty,bits,k1,k2,k3,k4⟩:=val_open h1
   obtain ⟨name,m1,m2⟩:=str_open h2
   simp only [Rows.uptoBulkAll] at hb
   obtain ⟨a,n',c,xs,L,o1,o2,o3,o4,o5,o6,o7⟩:=open_ls (fun e c=>ExAt (·<w.heap.size) w e c∧exR e) exB Tryz.underlying32 cell2.2.1 (by omega) h3 (fun n cs d' p' hlt hl5 ht=>by
    obtain ⟨e,w1,w2,w3⟩:=ih (by omega) ht
    exact ⟨e,⟨w1,w2⟩,w3⟩)
   obtain ⟨o8,o9⟩:=o6.both
   injection g2 with g2
   simp only [List.cons.injEq,and_true] at g1 k1 m1 o1
   obtain ⟨k5,k6⟩:=k1
   subst g1 g2 k5 k6 m1 o1 o4
   refine ⟨.mk op ty bits name L,?_,?_,?_⟩
   · simp only [ExAt]
     exact ⟨a,c,xs,rfl,o5,ExsAt_ls.2 o8⟩
   · simp only [exR]
     exact ⟨wf_u8 g3,k2,k3,exRs_mem.2 o9⟩
   · simp only [exB]
     rw [exBs_sum,hb,m2,k4]
     have:=bulk_pos x3
     simp only [Rows.uptoBulk]
     omega
set_option maxRecDepth 100000 in
theorem vr_open {n:Nat} {cs:List Value} {d:DataW H} {p:List MemPlace} (h:DataW.trod enc Tryz.prog w 0 (fun _=>true) held n 67 cs=some (d,p)):
  ∃ v,(VrAt v cs∧vrR v)∧vrB v≤Rows.uptoBulk d:=by
 obtain ⟨ds,hb,hl,hcl,hf⟩:=open_parts Tryz.underlying67 h
 obtain ⟨c0,c1,c2,rfl⟩:=list3 (hcl.trans cell2.2.2.2.1)
 obtain ⟨n0,d0,q0,e0,h0⟩:=hf 0 _ rfl
 obtain ⟨n1,d1,q1,e1,h1⟩:=hf 1 _ rfl
 obtain ⟨x0,x1,rfl⟩:=list2 (hl.trans rfl)
 simp only [List.getElem?_cons_zero,List.getElem?_cons_succ,Option.some.injEq] at e0 e1
 subst e0 e1
 have h0:DataW.trod enc Tryz.prog w 0 (fun _=>true) held n0 9 [c0]=some (x0,q0):=by simpa [cell1.2.2.2.1] using h0
 have h1:DataW.trod enc Tryz.prog w 0 (fun _=>true) held n1 31 [c1,c2]=some (x1,q1):=by simpa [cell2.1] using h1
 obtain ⟨ty,bits,k1,k2,k3,k4⟩:=val_open h1
 obtain ⟨name,m1,m2⟩:=str_open h0
 simp only [Rows.uptoBulkAll] at hb
 simp only [List.cons.injEq,and_true] at k1 m1
 obtain ⟨k5,k6⟩:=k1
 subst k5 k6 m1
 exact ⟨⟨name,ty,bits⟩,⟨rfl,k2,k3⟩,by unfold vrB;simp only;omega⟩
set_option maxRecDepth 100000 in
theorem st_open:∀ (b:Nat) {n:Nat} {cs:List Value} {d:DataW H} {p:List MemPlace},Rows.uptoBulk d<b→DataW.trod enc Tryz.prog w 0 (fun _=>true) held n 56 cs=some (d,p)→
  ∃ e,StAt (·<w.heap.size) w e cs∧stR e∧stB e≤Rows.uptoBulk d:=by
 intro b
 induction b with
 | zero=>intro n cs d p h;omega
 | succ b ih=>
   intro n cs d p hbd h
   obtain ⟨ds,hb,hl,hcl,hf⟩:=open_parts Tryz.underlying56 h
   obtain ⟨c0,c1,c2,c3,c4,c5,c6,c7,c8,rfl⟩:=list9 (hcl.trans cell2.2.2.1)
   obtain ⟨n0,d0,q0,e0,h0⟩:=hf 0 _ rfl
   obtain ⟨n1,d1,q1,e1,h1⟩:=hf 1 _ rfl
   obtain ⟨n2,d2,q2,e2,h2⟩:=hf 2 _ rfl
   obtain ⟨n3,d3,q3,e3,h3⟩:=hf 3 _ rfl
   obtain ⟨n4,d4,q4,e4,h4⟩:=hf 4 _ rfl
   obtain ⟨x0,x1,x2,x3,x4,rfl⟩:=list5 (hl.trans rfl)
   simp only [List.getElem?_cons_zero,List.getElem?_cons_succ,Option.some.injEq] at e0 e1 e2 e3 e4
   subst e0 e1 e2 e3 e4
   have h0:DataW.trod enc Tryz.prog w 0 (fun _=>true) held n0 3 [c0]=some (x0,q0):=by simpa [cell1.2.2.2.2.1] using h0
   have h1:DataW.trod enc Tryz.prog w 0 (fun _=>true) held n1 9 [c1]=some (x1,q1):=by simpa [cell1.2.2.2.1] using h1
   have h2:DataW.trod enc Tryz.prog w 0 (fun _=>true) held n2 34 [c2,c3,c4,c5,c6]=some (x2,q2):=by simpa [cell2.2.1] using h2
   have h3:DataW.trod enc Tryz.prog w 0 (fun _=>true) held n3 54 [c7]=some (x3,q3):=by simpa [cell1.2.2.2.2.2.2.1] using h3
   have h4:DataW.trod enc Tryz.prog w 0 (fun _=>true) held n4 54 [c8]=some (x4,q4):=by simpa [cell1.2.2.2.2.2.2.1] using h4
   obtain ⟨kind,g1,g2,g3⟩:=DataW.trod_int Tryz.underlying3 h0
   obtain ⟨name,m1,m2⟩:=str_open h1
   obtain ⟨e,k1,k2,k3⟩:=ex_open _ (Nat.lt_succ_self _) h2
   simp only [Rows.uptoBulkAll] at hb
   obtain ⟨a,n',c,xs,L,o1,o2,o3,o4,o5,o6,o7⟩:=open_ls (fun e c=>StAt (·<w.heap.size) w e c∧stR e) stB Tryz.underlying54 cell2.2.2.1 (by omega) h3 (fun n cs d' p' hlt hl5 ht=>by
    obtain ⟨e,w1,w2,w3⟩:=ih (by omega) ht
    exact ⟨e,⟨w1,w2⟩,w3⟩)
   obtain ⟨o8,o9⟩:=o6.both
   obtain ⟨a',n2',c',xs',L',r1,r2,r3,r4,r5,r6,r7⟩:=open_ls (fun e c=>StAt (·<w.heap.size) w e c∧stR e) stB Tryz.underlying54 cell2.2.2.1 (by omega) h4 (fun n cs d' p' hlt hl5 ht=>by
    obtain ⟨e,w1,w2,w3⟩:=ih (by omega) ht
    exact ⟨e,⟨w1,w2⟩,w3⟩)
   obtain ⟨r8,r9⟩:=r6.both
   injection g2 with g2
   simp only [List.cons.injEq,and_true] at g1 m1 o1 r1
   subst g1 g2 m1 o1 o4 r1 r4
   refine ⟨.mk kind name e L L',?_,?_,?_⟩
   · simp only [StAt]
     exact ⟨[c2,c3,c4,c5,c6],a,c,xs,a',c',xs',rfl,k1,o5,StsAt_ls.2 o8,r5,StsAt_ls.2 r8⟩
   · simp only [stR]
     exact ⟨wf_i64 g3,k2,stRs_mem.2 o9,stRs_mem.2 r9⟩
   · simp only [stB]
     rw [stBs_sum,stBs_sum,hb,m2]
     simp only [Rows.uptoBulk]
     omega
set_option maxRecDepth 100000 in
theorem th_open {n:Nat} {cs:List Value} {d:DataW H} {p:List MemPlace} (h:DataW.trod enc Tryz.prog w 0 (fun _=>true) held n 58 cs=some (d,p)):
  ∃ v,(ThAt (·<w.heap.size) w v cs∧thR v)∧thB v≤Rows.uptoBulk d:=by
 obtain ⟨ds,hb,hl,hcl,hf⟩:=open_parts Tryz.underlying58 h
 obtain ⟨c0,c1,c2,rfl⟩:=list3 (hcl.trans cell2.2.2.2.2.1)
 obtain ⟨n0,d0,q0,e0,h0⟩:=hf 0 _ rfl
 obtain ⟨n1,d1,q1,e1,h1⟩:=hf 1 _ rfl
 obtain ⟨n2,d2,q2,e2,h2⟩:=hf 2 _ rfl
 obtain ⟨x0,x1,x2,rfl⟩:=list3 (hl.trans rfl)
 simp only [List.getElem?_cons_zero,List.getElem?_cons_succ,Option.some.injEq] at e0 e1 e2
 subst e0 e1 e2
 have h0:DataW.trod enc Tryz.prog w 0 (fun _=>true) held n0 9 [c0]=some (x0,q0):=by simpa [cell1.2.2.2.1] using h0
 have h1:DataW.trod enc Tryz.prog w 0 (fun _=>true) held n1 22 [c1]=some (x1,q1):=by simpa [cell1.2.2.2.2.2.2.2.1] using h1
 have h2:DataW.trod enc Tryz.prog w 0 (fun _=>true) held n2 54 [c2]=some (x2,q2):=by simpa [cell1.2.2.2.2.2.2.1] using h2
 obtain ⟨name,m1,m2⟩:=str_open h0
 simp only [Rows.uptoBulkAll] at hb
 obtain ⟨a,n',c,xs,L,o1,o2,o3,o4,o5,o6,o7⟩:=open_ls (fun e c=>VrAt e c∧vrR e) vrB Tryz.underlying22 cell2.2.2.2.1 (by omega) h1 (fun n cs d' p' hlt hl5 ht=>vr_open ht)
 obtain ⟨o8,o9⟩:=o6.both
 obtain ⟨a',n2',c',xs',L',r1,r2,r3,r4,r5,r6,r7⟩:=open_ls (fun e c=>StAt (·<w.heap.size) w e c∧stR e) stB Tryz.underlying54 cell2.2.2.1 (by omega) h2 (fun n cs d' p' hlt hl5 ht=>by
  obtain ⟨e,w1,w2,w3⟩:=st_open _ (Nat.lt_succ_self _) ht
  exact ⟨e,⟨w1,w2⟩,w3⟩)
 obtain ⟨r8,r9⟩:=r6.both
 simp only [List.cons.injEq,and_true] at m1 o1 r1
 subst m1 o1 o4 r1 r4
 exact ⟨⟨name,L,L'⟩,⟨⟨a,c,xs,a',c',xs',rfl,o5,o8,r5,StsAt_ls.2 r8⟩,o9,stRs_mem.2 r9⟩,by unfold thB;simp only;rw [stBs_sum];omega⟩
set_option maxRecDepth 100000 in
theorem pg_open {n:Nat} {cs:List Value} {d:DataW H} {p:List MemPlace} (h:DataW.trod enc Tryz.prog w 0 (fun _=>true) held n 26 cs=some (d,p)):
  ∃ v,(PgAt (·<w.heap.size) w v cs∧pgR v)∧pgB v≤Rows.uptoBulk d:=by
 obtain ⟨ds,hb,hl,hcl,hf⟩:=open_parts Tryz.underlying26 h
 obtain ⟨c0,c1,c2,rfl⟩:=list3 (hcl.trans cell2.2.2.2.2.2)
 obtain ⟨n0,d0,q0,e0,h0⟩:=hf 0 _ rfl
 obtain ⟨n1,d1,q1,e1,h1⟩:=hf 1 _ rfl
 obtain ⟨n2,d2,q2,e2,h2⟩:=hf 2 _ rfl
 obtain ⟨x0,x1,x2,rfl⟩:=list3 (hl.trans rfl)
 simp only [List.getElem?_cons_zero,List.getElem?_cons_succ,Option.some.injEq] at e0 e1 e2
 subst e0 e1 e2
 have h0:DataW.trod enc Tryz.prog w 0 (fun _=>true) held n0 22 [c0]=some (x0,q0):=by simpa [cell1.2.2.2.2.2.2.2.1] using h0
 have h1:DataW.trod enc Tryz.prog w 0 (fun _=>true) held n1 23 [c1]=some (x1,q1):=by simpa [cell1.2.2.2.2.2.2.2.2.1] using h1
 have h2:DataW.trod enc Tryz.prog w 0 (fun _=>true) held n2 24 [c2]=some (x2,q2):=by simpa [cell1.2.2.2.2.2.2.2.2.2] using h2
 simp only [Rows.uptoBulkAll] at hb
 obtain ⟨a,n',c,xs,L,o1,o2,o3,o4,o5,o6,o7⟩:=open_ls (fun e c=>VrAt e c∧vrR e) vrB Tryz.underlying22 cell2.2.2.2.1 (by omega) h0 (fun n cs d' p' hlt hl5 ht=>vr_open ht)
 obtain ⟨o8,o9⟩:=o6.both
 obtain ⟨a',n2',c',xs',L',r1,r2,r3,r4,r5,r6,r7⟩:=open_ls TxAt txB Tryz.underlying23 cell1.2.2.2.1 (by omega) h1 (fun n cs d' p' hlt hl5 ht=>by
  obtain ⟨l,g1,g2⟩:=str_open ht
  exact ⟨l,g1,by unfold txB;omega⟩)
 obtain ⟨a3,n3',c3,xs3,L3,s1,s2,s3,s4,s5,s6,s7⟩:=open_ls (fun e c=>ThAt (·<w.heap.size) w e c∧thR e) thB Tryz.underlying24 cell2.2.2.2.2.1 (by omega) h2 (fun n cs d' p' hlt hl5 ht=>th_open ht)
 obtain ⟨s8,s9⟩:=s6.both
 simp only [List.cons.injEq,and_true] at o1 r1 s1
 subst o1 o4 r1 r4 s1 s4
 exact ⟨⟨L,L',L3⟩,⟨⟨a,c,xs,a',c',xs',a3,c3,xs3,rfl,o5,o8,r5,r6,s5,s8⟩,o9,s9⟩,by unfold pgB;simp only;omega⟩
end
end Go.Proofs.YtiacalnkmnckjaaGreatDoor
end
section
namespace Go.Proofs.YtiacalnkmnckjaaGreatDoor
open Go.RowKit Go.As
open Go.Sy in
set_option maxRecDepth 100000 in
theorem weightStmts_any:∀ (N:Nat) (l:List St) (a:Option Addr) (n cap:Nat) (xs:List Value) (w:World),n=l.length→swts l<N→swts l≤1099511627776→Sy.SlAt (·<w.heap.size) w a n 9 xs→StsAt (·<w.heap.size) w l xs→
  Calls Tryz.prog 114 #[.slice a n cap] w fun r w'=>r = .returned (.int .i64 (swts l:Nat))∧Below w.heap.size w w':=by
 intro N
 induction N with
 | zero=>
   intro l a n cap xs w hn h
   omega
 | succ N ihN=>
   intro l a n cap xs w hn hN hbd hsl hks
   have hnl:=swts_len l
   refine Sy.enter (vs:=[.slice a n cap]) sy_fine Tryz.func114 rfl (fun γ=>norms_LR _) rfl (fun γ0 hγ0=>?_)
   refine rk ?_
   refine good_toLp ?_
   refine good_loopI (fun i:List St×List St=>i.2.length) (fun i=>l=i.1++i.2) (fun i=>⟨mkT [(0,.v (.slice a n cap)),(3,.v (.int .i64 ((swts i.1:Nat):Int))),(4,.v (.int .i64 (i.1.length:Int)))],mkH [],gz,[]⟩)
    ([],l) rfl (by kernel_rfl)
    (fun h=>good_sub _ [(0,.v (.slice a n cap)),(3,.v (.int .i64 ((swts ([]:List St):Nat):Int))),(4,.v (.int .i64 (([]:List St).length:Int)))] [] gz rfl (by kernel_rfl) (by kernel_rfl) (by kernel_rfl) (by kernel_rfl) (by kernel_rfl) (fun b hb=>hγ0 b hb) (by kernel_rfl) h) ?_
   rintro ⟨l1,l2⟩ hI ih
   have hI:l=l1++l2:=hI
   have hn2:n=l1.length+l2.length:=by rw [hn,hI,List.length_append]
   have hw1:swts l=swts l1+swts l2:=by rw [hI,swts_app]
   refine rk ?_
   cases l2 with
   | nil=>
     have hn3:n=l1.length:=by rw [hn2];simp
     refine gK false (b:=intLt (l1.length:Int) (n:Int)) (lt_f (by omega)) ?_
     refine rk ?_
     refine gR (.int .i64 ((swts l1:Nat):Int)) (fun W hk=>⟨?_,hk.below⟩)
     rw [hw1]
     simp [swts]
   | cons s l3=>
     have hin:l1.length<n:=by rw [hn2,List.length_cons];omega
     have hks2:=hks
     rw [hI] at hks2
     obtain ⟨c,hc,hcell⟩:=hks2.at_
     simp only [swts] at hw1
     obtain ⟨kind,sname,⟨eop,ety,ebits,ename,ekids⟩,body,els⟩:=s
     simp only [StAt] at hc
     obtain ⟨ec,ba,bcap,bxs,la,lcap,lxs,rfl,he,hbs,hbt,hls,hlt⟩:=hc
     have he0:=he
     simp only [ExAt] at he0
     obtain ⟨ea,ecap,exs,rfl,_⟩:=he0
     have hcell:∀ j v,([.int .i64 kind,.string (str sname),.int .u8 eop,.int .u8 ety,.int .u64 ebits,.string (str ename),.slice ea ekids.length ecap,.slice ba body.length bcap,.slice la els.length lcap]:List Value)[j]?=some v→xs[l1.length*9+j]?=some v:=hcell
     have hmid:∀ j v,([.int .u8 eop,.int .u8 ety,.int .u64 ebits,.string (str ename),.slice ea ekids.length ecap]:List Value)[j]?=some v→xs[l1.length*9+2+j]?=some v:=cell_part hcell 2 (mid_get [_,_] [.int .u8 eop,.int .u8 ety,.int .u64 ebits,.string (str ename),.slice ea ekids.length ecap] [_,_])
     simp only [swt] at hw1
     refine gK true (b:=intLt (l1.length:Int) (n:Int)) (lt_t (by omega)) ?_
     refine rk ?_
     refine good_draw sy_mixed (by kernel_rfl) ?_
     refine q_run [] 60 ?_
     refine qV (.pointer (some ⟨gB a,oB a+l1.length*9,none⟩)) (S:=Instr.indexAt 54 (.slice a n cap) (.int .i64 (l1.length:Int))) (fun W _=>idx_sl (e:=56) hsl (by kernel_rfl) (by kernel_rfl) hin W) ?_
     refine q_run [] 60 ?_
     refine qV (.agg #[.int .u8 eop,.int .u8 ety,.int .u64 ebits,.string (str ename),.slice ea ekids.length ecap]) (S:=Instr.loadAt 34 (.pointer (some ⟨gB a,oB a+l1.length*9+2,none⟩))) (fun W hk=>load_slA (P:=Tryz.prog) (ty:=34) (m:=5) (cs:=[.int .u8 eop,.int .u8 ety,.int .u64 ebits,.string (str ename),.slice ea ekids.length ecap]) hsl (by kernel_rfl) (by kernel_rfl) l1.length 2 rfl hmid hk) ?_
     refine q_run [] 60 ?_
     refine qB [.agg #[.int .u8 eop,.int .u8 ety,.int .u64 ebits,.string (str ename),.slice ea ekids.length ecap]] (.int .i64 (wgt (.mk eop ety ebits ename ekids):Nat)) (fun W hk=>weight_any _ (.mk eop ety ebits ename ekids) [.int .u8 eop,.int .u8 ety,.int .u64 ebits,.string (str ename),.slice ea ekids.length ecap] W (Nat.le_refl _) (by omega) (he.keep hk (fun k h=>Nat.lt_of_lt_of_le h hk.size))) ?_
     refine q_run [] 60 ?_
     refine qV (.pointer (some ⟨gB a,oB a+l1.length*9,none⟩)) (S:=Instr.indexAt 54 (.slice a n cap) (.int .i64 (l1.length:Int))) (fun W _=>idx_sl (e:=56) hsl (by kernel_rfl) (by kernel_rfl) hin W) ?_
     refine q_run [] 60 ?_
     refine qV (.slice ba body.length bcap) (S:=Instr.loadAt 54 (.pointer (some ⟨gB a,oB a+l1.length*9+7,none⟩))) (fun W hk=>load_sl hsl (by kernel_rfl) l1.length 7 (hcell 7 _ rfl) hk) ?_
     refine q_run [] 60 ?_
     refine qB [.slice ba body.length bcap] (.int .i64 (swts body:Nat)) (fun W hk=>ihN body _ _ _ _ W rfl (by omega) (by omega) ((hbs.keep hk).mono (fun k h=>Nat.lt_of_lt_of_le h hk.size)) (hbt.keep hk (fun k h=>Nat.lt_of_lt_of_le h hk.size))) ?_
     refine q_run [] 60 ?_
     refine qV (.pointer (some ⟨gB a,oB a+l1.length*9,none⟩)) (S:=Instr.indexAt 54 (.slice a n cap) (.int .i64 (l1.length:Int))) (fun W _=>idx_sl (e:=56) hsl (by kernel_rfl) (by kernel_rfl) hin W) ?_
     refine q_run [] 60 ?_
     refine qV (.slice la els.length lcap) (S:=Instr.loadAt 54 (.pointer (some ⟨gB a,oB a+l1.length*9+8,none⟩))) (fun W hk=>load_sl hsl (by kernel_rfl) l1.length 8 (hcell 8 _ rfl) hk) ?_
     refine q_run [] 60 ?_
     refine qB [.slice la els.length lcap] (.int .i64 (swts els:Nat)) (fun W hk=>ihN els _ _ _ _ W rfl (by omega) (by omega) ((hls.keep hk).mono (fun k h=>Nat.lt_of_lt_of_le h hk.size)) (hlt.keep hk (fun k h=>Nat.lt_of_lt_of_le h hk.size))) ?_
     refine q_run [] 60 ?_
     refine qE ?_
     refine rk ?_
     have hs1:swts (l1++[(St.mk kind sname (.mk eop ety ebits ename ekids) body els)])=swts l1+(1+wgt (.mk eop ety ebits ename ekids)+swts body+swts els):=by rw [swts_app];simp [swts,swt]
     refine gS 3 (x := .int .i64 (wrapF .i64 (wrapF .i64 (wrapF .i64 (wrapF .i64 (((swts l1:Nat):Int)+1)+((wgt (.mk eop ety ebits ename ekids):Nat):Int))+((swts body:Nat):Int))+((swts els:Nat):Int)))) (.int .i64 (((swts (l1++[(St.mk kind sname (.mk eop ety ebits ename ekids) body els)]):Nat):Int))) (by rw [wr64 (n:=((swts l1:Nat):Int)+1) (by omega) (by omega),wr64 (n:=((swts l1:Nat):Int)+1+((wgt (.mk eop ety ebits ename ekids):Nat):Int)) (by omega) (by omega),wr64 (n:=((swts l1:Nat):Int)+1+((wgt (.mk eop ety ebits ename ekids):Nat):Int)+((swts body:Nat):Int)) (by omega) (by omega),wr64 (n:=((swts l1:Nat):Int)+1+((wgt (.mk eop ety ebits ename ekids):Nat):Int)+((swts body:Nat):Int)+((swts els:Nat):Int)) (by omega) (by omega)];congr 1;omega) ?_
     refine gS 4 (x := .int .i64 (wrapF .i64 (((l1.length:Nat):Int)+1))) (.int .i64 ((((l1++[(St.mk kind sname (.mk eop ety ebits ename ekids) body els)]).length:Nat):Int))) (by rw [wr64 (n:=((l1.length:Nat):Int)+1) (by omega) (by omega)];congr 1;simp) ?_
     exact gU _ [(0,.v (.slice a n cap)),(3,.v (.int .i64 ((swts (l1++[(St.mk kind sname (.mk eop ety ebits ename ekids) body els)]):Nat):Int))),(4,.v (.int .i64 ((l1++[(St.mk kind sname (.mk eop ety ebits ename ekids) body els)]).length:Int)))] [] gz (fun b hb=>hγ0 b hb) (ih (l1++[(St.mk kind sname (.mk eop ety ebits ename ekids) body els)],l3) (by show l=(l1++[_])++l3;rw [hI];simp) (by show l3.length<(_::l3).length;simp))
open Go.Sy in
set_option maxRecDepth 100000 in
theorem weightProgram_any (p:Pg) (cs:List Value) (w:World) (hbd:pwt p≤1099511627776) (hp:PgAt (·<w.heap.size) w p cs):
  Calls Tryz.prog 48 #[.agg cs.toArray] w fun r w'=>r = .returned (.int .i64 (pwt p:Nat))∧Below w.heap.size w w':=by
 obtain ⟨a,cap,xs,b,cap2,ys,d,cap3,zs,rfl,hxs,hxt,hys,hyt,hzs,hzt⟩:=hp
 obtain ⟨ns,hns⟩:∃ n,n=p.shared.length:=⟨_,rfl⟩
 obtain ⟨nm,hnm⟩:∃ n,n=p.mutexes.length:=⟨_,rfl⟩
 obtain ⟨nt,hnt⟩:∃ n,n=p.threads.length:=⟨_,rfl⟩
 obtain ⟨pt,hpt⟩:∃ l,l=p.threads:=⟨_,rfl⟩
 have hbd1:ns+nm+thws pt≤1099511627776:=by rw [hns,hnm,hpt];exact hbd
 rw [← hns] at hxs ⊢
 rw [← hnm] at hys ⊢
 rw [← hnt] at hzs ⊢
 rw [← hpt] at hzt hnt
 have hpw:pwt p=ns+nm+thws pt:=by rw [hns,hnm,hpt];rfl
 have hnl:=thws_len pt
 refine Sy.enter (vs:=[.agg #[.slice a ns cap,.slice b nm cap2,.slice d nt cap3]]) sy_fine Tryz.func48 rfl (fun γ=>norms_LR _) rfl (fun γ0 hγ0=>?_)
 refine rk ?_
 refine good_toLp ?_
 refine gS 3 (x := .int .i64 (wrapF .i64 (((ns:Nat):Int)+((nm:Nat):Int)))) (.int .i64 (((ns+nm+thws ([]:List Th):Nat):Int))) (by rw [wr64 (n:=((ns:Nat):Int)+((nm:Nat):Int)) (by omega) (by omega)];simp [thws]) ?_
 refine good_loopI (fun i:List Th×List Th=>i.2.length) (fun i=>pt=i.1++i.2) (fun i=>⟨mkT [(1,.ptr gz 0),(3,.v (.int .i64 ((ns+nm+thws i.1:Nat):Int))),(4,.v (.int .i64 ((i.1.length:Nat):Int)))],mkH [(gz,some (.cells 26 true true true 3 (putL .leaf 0 [.v (.slice a ns cap),.v (.slice b nm cap2),.v (.slice d nt cap3)])))],gz+1,[]⟩)
  ([],pt) rfl (by kernel_rfl)
  (fun h=>gU _ [(1,.ptr gz 0),(3,.v (.int .i64 ((ns+nm+thws ([]:List Th):Nat):Int))),(4,.v (.int .i64 ((([]:List Th).length:Nat):Int)))] [(gz,some (.cells 26 true true true 3 (putL .leaf 0 [.v (.slice a ns cap),.v (.slice b nm cap2),.v (.slice d nt cap3)])))] (gz+1) (fun b hb=>hγ0 b (Nat.le_trans (Nat.le_add_right _ _) hb)) h) ?_
 rintro ⟨l1,l2⟩ hI ih
 have hI:pt=l1++l2:=hI
 have hn2:nt=l1.length+l2.length:=by rw [hnt,hI,List.length_append]
 have hw1:thws pt=thws l1+thws l2:=by rw [hI,thws_app]
 refine rk ?_
 cases l2 with
 | nil=>
   have hn3:nt=l1.length:=by rw [hn2];simp
   refine gK false (b:=intLt (l1.length:Int) (nt:Int)) (lt_f (by omega)) ?_
   refine rk ?_
   refine gR (.int .i64 ((ns+nm+thws l1:Nat):Int)) (fun W hk=>⟨?_,hk.below⟩)
   rw [hpw,hw1]
   simp [thws]
 | cons s l3=>
   have hin:l1.length<nt:=by rw [hn2,List.length_cons];omega
   have hks2:=hzt
   rw [hI] at hks2
   obtain ⟨c,hc,hcell⟩:=hks2.at_ (fun _ _ h=>h.len)
   simp only [thws] at hw1
   obtain ⟨la,lcap,lxs,ba,bcap,bxs,rfl,hls,hlt,hbs,hbt⟩:=hc
   simp only [thw] at hw1
   refine gK true (b:=intLt (l1.length:Int) (nt:Int)) (lt_t (by omega)) ?_
   refine rk ?_
   refine good_draw sy_mixed (by kernel_rfl) ?_
   refine q_run [] 60 ?_
   refine qV (.pointer (some ⟨gB d,oB d+l1.length*3,none⟩)) (S:=Instr.indexAt 24 (.slice d nt cap3) (.int .i64 (l1.length:Int))) (fun W _=>idx_sl (e:=58) hzs (by kernel_rfl) (by kernel_rfl) hin W) ?_
   refine q_run [] 60 ?_
   refine qV (.slice la s.locals.length lcap) (S:=Instr.loadAt 22 (.pointer (some ⟨gB d,oB d+l1.length*3+1,none⟩))) (fun W hk=>load_sl hzs (by kernel_rfl) l1.length 1 (hcell 1 _ rfl) hk) ?_
   refine q_run [] 60 ?_
   refine qV (.pointer (some ⟨gB d,oB d+l1.length*3,none⟩)) (S:=Instr.indexAt 24 (.slice d nt cap3) (.int .i64 (l1.length:Int))) (fun W _=>idx_sl (e:=58) hzs (by kernel_rfl) (by kernel_rfl) hin W) ?_
   refine q_run [] 60 ?_
   refine qV (.slice ba s.body.length bcap) (S:=Instr.loadAt 54 (.pointer (some ⟨gB d,oB d+l1.length*3+2,none⟩))) (fun W hk=>load_sl hzs (by kernel_rfl) l1.length 2 (hcell 2 _ rfl) hk) ?_
   refine q_run [] 60 ?_
   refine qB [.slice ba s.body.length bcap] (.int .i64 ((swts s.body:Nat):Int)) (fun W hk=>weightStmts_any _ s.body _ _ _ _ W rfl (Nat.lt_succ_self _) (by omega) ((hbs.keep hk).mono (fun k h=>Nat.lt_of_lt_of_le h hk.size)) (hbt.keep hk (fun k h=>Nat.lt_of_lt_of_le h hk.size))) ?_
   refine q_run [] 60 ?_
   refine qE ?_
   refine rk ?_
   have hs1:thws (l1++[s])=thws l1+(1+s.locals.length+swts s.body):=by rw [thws_app];simp [thws,thw]
   refine gS 3 (x := .int .i64 (wrapF .i64 (wrapF .i64 (wrapF .i64 (((ns+nm+thws l1:Nat):Int)+1)+((s.locals.length:Nat):Int))+((swts s.body:Nat):Int)))) (.int .i64 (((ns+nm+thws (l1++[s]):Nat):Int))) (by rw [wr64 (n:=((ns+nm+thws l1:Nat):Int)+1) (by omega) (by omega),wr64 (n:=((ns+nm+thws l1:Nat):Int)+1+((s.locals.length:Nat):Int)) (by omega) (by omega),wr64 (n:=((ns+nm+thws l1:Nat):Int)+1+((s.locals.length:Nat):Int)+((swts s.body:Nat):Int)) (by omega) (by omega)];congr 1;omega) ?_
   refine gS 4 (x := .int .i64 (wrapF .i64 (((l1.length:Nat):Int)+1))) (.int .i64 ((((l1++[s]).length:Nat):Int))) (by rw [wr64 (n:=((l1.length:Nat):Int)+1) (by omega) (by omega)];congr 1;simp) ?_
   exact gU _ [(1,.ptr gz 0),(3,.v (.int .i64 ((ns+nm+thws (l1++[s]):Nat):Int))),(4,.v (.int .i64 (((l1++[s]).length:Nat):Int)))] [(gz,some (.cells 26 true true true 3 (putL .leaf 0 [.v (.slice a ns cap),.v (.slice b nm cap2),.v (.slice d nt cap3)])))] (gz+1) (fun b hb=>hγ0 b (Nat.le_trans (Nat.le_add_right _ _) hb)) (ih (l1++[s],l3) (by show pt=(l1++[_])++l3;rw [hI];simp) (by show l3.length<(_::l3).length;simp))
end Go.Proofs.YtiacalnkmnckjaaGreatDoor
end
section
namespace Go.Proofs.YtiacalnkmnckjaaGreatDoor
open Go.RowKit Go.As
noncomputable def sameB {α:Type} (a b:α):Bool:=@decide (a=b) (Classical.propDecidable _)
theorem sameB_t {α:Type} {a b:α}:sameB a b=true↔a=b:=by unfold sameB;exact @decide_eq_true_iff _ (Classical.propDecidable _)
theorem sameB_f {α:Type} {a b:α} (h:a≠b):sameB a b=false:=by rw [← Bool.not_eq_true,sameB_t];exact h
theorem varGuard:Tryz.prog.eqGuardType Tryz.prog.depth 67=false:=by kernel_rfl
noncomputable def vrEq (x y:Vr):Bool:=Sy.bEqL x.name y.name&&vEq x.ty x.bits y.ty y.bits
theorem vrEq_t {x y:Vr}:vrEq x y=true↔x=y:=by
 obtain ⟨a,b,c⟩:=x
 obtain ⟨d,e,g⟩:=y
 simp [vrEq,vEq,Sy.bEqL_eq,Sy.intEq_eq]
theorem run_neq_var (ox oy:Operand) (x y:Vr) (w:World):
  (do eqGuard .neq 67 ox oy (.agg #[.string (str x.name),.int .u8 x.ty,.int .u64 x.bits]) (.agg #[.string (str y.name),.int .u8 y.ty,.int .u64 y.bits]);binOp .neq 67 (.agg #[.string (str x.name),.int .u8 x.ty,.int .u64 x.bits]) (.agg #[.string (str y.name),.int .u8 y.ty,.int .u64 y.bits]):Sem Value).run Tryz.prog w = .ok (.bool (!(vrEq x y))) w:=by
 have h1:(eqGuard .neq 67 ox oy (.agg #[.string (str x.name),.int .u8 x.ty,.int .u64 x.bits]) (.agg #[.string (str y.name),.int .u8 y.ty,.int .u64 y.bits])).run Tryz.prog w = .ok () w:=by
  have:=varGuard
  unfold eqGuard
  go_simp
 have h2:(binOp .neq 67 (.agg #[.string (str x.name),.int .u8 x.ty,.int .u64 x.bits]) (.agg #[.string (str y.name),.int .u8 y.ty,.int .u64 y.bits])).run Tryz.prog w = .ok (.bool (!(vrEq x y))) w:=by
  have h0:Tryz.prog.underlying 67=some (.struct (Tryz.prog.fieldsOf 67)):=by rw [Program.fieldsOf,Tryz.underlying67]
  rw [run_neq_struct,run_equalIn_agg w 9999 _ _ _ h0 (by kernel_rfl)]
  have h1:=run_equalIn_string (P:=Tryz.prog) w 9998 9 (str x.name) (str y.name) Tryz.underlying9
  have h2:=run_eqi_value x.ty x.bits y.ty y.bits 9997 w
  rw [str_toList,str_toList] at h1
  rw [Program.fieldsOf,Tryz.underlying67]
  unfold vrEq
  rw [Sy.bEqL_eq]
  go_simp
  by_cases ha:x.name=y.name <;> by_cases hb:x.ty=y.ty <;> by_cases hc:x.bits=y.bits <;> simp [ha,hb,hc,vEq,Sy.intEq_eq]
 exact Sy.eqG2 h1 h2
open Go.Sy in
set_option maxRecDepth 100000 in
theorem sameTexts_any (L M:List (List UInt8)) (a1 a2:Option Addr) (n1 n2 cap1 cap2:Nat) (xs1 xs2:List Value) (w:World) (hn1:n1=L.length) (hn2:n2=M.length) (hbd:n1≤1099511627776)
  (hsl1:Sy.SlAt (·<w.heap.size) w a1 n1 1 xs1) (hsl2:Sy.SlAt (·<w.heap.size) w a2 n2 1 xs2) (hks1:LsAt TxAt L xs1) (hks2:LsAt TxAt M xs2):
  Calls Tryz.prog 67 #[.slice a1 n1 cap1,.slice a2 n2 cap2] w fun r w'=>r = .returned (.bool (sameB L M))∧Below w.heap.size w w':=by
 refine Sy.enter (vs:=[.slice a1 n1 cap1,.slice a2 n2 cap2]) sy_fine Tryz.func67 rfl (fun γ=>norms_LR _) rfl (fun γ0 hγ0=>?_)
 refine rk ?_
 refine good_cond (b:=!(intEq (n1:Int) (n2:Int))) (by kernel_rfl) (fun hnn=>?_) (fun hnn=>?_)
 ·
  refine rs [] 60 2 ?_
  refine gR (.bool false) (fun W hk=>⟨?_,hk.below⟩)
  rw [sameB_f]
  intro h
  rw [intEq_eq] at hnn;simp_all
 have hnn1:n1=n2:=by rw [intEq_eq] at hnn;have:(n1:Int)=(n2:Int):=(by simpa using hnn);omega
 refine rk ?_
 refine good_toLp ?_
 refine good_loopI (fun i:List (List UInt8)×List (List UInt8)×List (List UInt8)=>i.2.1.length) (fun i=>L=i.1++i.2.1∧M=i.1++i.2.2) (fun i=>⟨mkT [(0,.v (.slice a1 n1 cap1)),(1,.v (.slice a2 n2 cap2)),(5,.v (.int .i64 (i.1.length:Int)))],mkH [],gz,[]⟩)
  ([],L,M) ⟨rfl,rfl⟩ (by kernel_rfl)
  (fun h=>good_sub _ [(0,.v (.slice a1 n1 cap1)),(1,.v (.slice a2 n2 cap2)),(5,.v (.int .i64 (([]:List (List UInt8)).length:Int)))] [] gz rfl (by kernel_rfl) (by kernel_rfl) (by kernel_rfl) (by kernel_rfl) (by kernel_rfl) (fun b hb=>hγ0 b hb) (by kernel_rfl) h) ?_
 rintro ⟨l1,l2,m2⟩ ⟨hI1,hI2⟩ ih
 simp only at hI1 hI2
 have hq1:n1=l1.length+l2.length:=by rw [hn1,hI1,List.length_append]
 have hq2:n2=l1.length+m2.length:=by rw [hn2,hI2,List.length_append]
 refine rk ?_
 cases l2 with
 | nil=>
   obtain rfl:m2=[]:=List.eq_nil_of_length_eq_zero (by simp only [List.length_nil] at hq1;omega)
   refine gK false (b:=intLt (l1.length:Int) (n1:Int)) (lt_f (by rw [hq1];simp)) ?_
   refine rk ?_
   refine gR (.bool true) (fun W hk=>⟨?_,hk.below⟩)
   rw [sameB_t.2 (by rw [hI1,hI2])]
 | cons x l3=>
   obtain ⟨y,m3,rfl⟩:∃ y m3,m2=y::m3:=by
    cases m2 with
    | nil=>simp only [List.length_nil,List.length_cons] at hq1 hq2;omega
    | cons a b=>exact ⟨a,b,rfl⟩
   have hin1:l1.length<n1:=by rw [hq1,List.length_cons];omega
   have hin2:l1.length<n2:=by omega
   have hks1':=hks1
   have hks2':=hks2
   rw [hI1] at hks1'
   rw [hI2] at hks2'
   obtain ⟨c1,hc1,hcell1⟩:=hks1'.at_ (fun _ _ h=>h.len)
   obtain ⟨c2,hc2,hcell2⟩:=hks2'.at_ (fun _ _ h=>h.len)
   refine gK true (b:=intLt (l1.length:Int) (n1:Int)) (lt_t (by omega)) ?_
   refine rk ?_
   obtain rfl:c1=[.string (str x)]:=hc1
   obtain rfl:c2=[.string (str y)]:=hc2
   refine good_draw sy_mixed (by kernel_rfl) ?_
   refine q_run [] 60 ?_
   refine qV (.pointer (some ⟨gB a1,oB a1+l1.length*1,none⟩)) (S:=Instr.indexAt 23 (.slice a1 n1 cap1) (.int .i64 (l1.length:Int))) (fun W _=>idx_sl (e:=9) hsl1 (by kernel_rfl) (by kernel_rfl) hin1 W) ?_
   refine q_run [] 60 ?_
   refine qV (.string (str x)) (S:=Instr.loadAt 9 (.pointer (some ⟨gB a1,oB a1+l1.length*1+0,none⟩))) (fun W hk=>load_sl hsl1 (by kernel_rfl) l1.length 0 (hcell1 0 _ rfl) hk) ?_
   refine q_run [] 60 ?_
   refine qV (.pointer (some ⟨gB a2,oB a2+l1.length*1,none⟩)) (S:=Instr.indexAt 23 (.slice a2 n2 cap2) (.int .i64 (l1.length:Int))) (fun W _=>idx_sl (e:=9) hsl2 (by kernel_rfl) (by kernel_rfl) hin2 W) ?_
   refine q_run [] 60 ?_
   refine qV (.string (str y)) (S:=Instr.loadAt 9 (.pointer (some ⟨gB a2,oB a2+l1.length*1+0,none⟩))) (fun W hk=>load_sl hsl2 (by kernel_rfl) l1.length 0 (hcell2 0 _ rfl) hk) ?_
   refine q_run [] 60 ?_
   refine qE ?_
   refine rk ?_
   refine good_cond (b:=!(bEqL x y)) (by kernel_rfl) (fun hss=>?_) (fun hss=>?_)
   ·
    have hne:x≠y:=fun h=>by rw [h,bEqL_eq] at hss;simp at hss
    refine rs [] 60 2 ?_
    refine gR (.bool false) (fun W hk=>⟨?_,hk.below⟩)
    rw [sameB_f]
    intro h
    rw [hI1,hI2] at h
    have h2:=(List.cons.inj (List.append_cancel_left h)).1
    exact hne h2
   ·
    have hxy:x=y:=by rw [bEqL_eq] at hss;simpa using hss
    refine rs [] 60 2 ?_
    refine gS 5 (x := .int .i64 (wrapF .i64 (((l1.length:Nat):Int)+1))) (.int .i64 ((((l1++[x]).length:Nat):Int))) (by rw [wr64 (n:=((l1.length:Nat):Int)+1) (by omega) (by omega)];congr 1;simp) ?_
    exact gU _ [(0,.v (.slice a1 n1 cap1)),(1,.v (.slice a2 n2 cap2)),(5,.v (.int .i64 ((l1++[x]).length:Int)))] [] gz (fun b hb=>hγ0 b hb) (ih (l1++[x],l3,m3) ⟨(by show L=(l1++[_])++l3;rw [hI1];simp),(by show M=(l1++[_])++m3;rw [hI2,← hxy];simp)⟩ (by show l3.length<(_::l3).length;simp))
open Go.Sy in
set_option maxRecDepth 100000 in
theorem sameVars_any (L M:List Vr) (a1 a2:Option Addr) (n1 n2 cap1 cap2:Nat) (xs1 xs2:List Value) (w:World) (hn1:n1=L.length) (hn2:n2=M.length) (hbd:n1≤1099511627776)
  (hsl1:Sy.SlAt (·<w.heap.size) w a1 n1 3 xs1) (hsl2:Sy.SlAt (·<w.heap.size) w a2 n2 3 xs2) (hks1:LsAt VrAt L xs1) (hks2:LsAt VrAt M xs2):
  Calls Tryz.prog 66 #[.slice a1 n1 cap1,.slice a2 n2 cap2] w fun r w'=>r = .returned (.bool (sameB L M))∧Below w.heap.size w w':=by
 refine Sy.enter (vs:=[.slice a1 n1 cap1,.slice a2 n2 cap2]) sy_fine Tryz.func66 rfl (fun γ=>norms_LR _) rfl (fun γ0 hγ0=>?_)
 refine rk ?_
 refine good_cond (b:=!(intEq (n1:Int) (n2:Int))) (by kernel_rfl) (fun hnn=>?_) (fun hnn=>?_)
 ·
  refine rs [] 60 2 ?_
  refine gR (.bool false) (fun W hk=>⟨?_,hk.below⟩)
  rw [sameB_f]
  intro h
  rw [intEq_eq] at hnn;simp_all
 have hnn1:n1=n2:=by rw [intEq_eq] at hnn;have:(n1:Int)=(n2:Int):=(by simpa using hnn);omega
 refine rk ?_
 refine good_toLp ?_
 refine good_loopI (fun i:List Vr×List Vr×List Vr=>i.2.1.length) (fun i=>L=i.1++i.2.1∧M=i.1++i.2.2) (fun i=>⟨mkT [(0,.v (.slice a1 n1 cap1)),(1,.v (.slice a2 n2 cap2)),(5,.v (.int .i64 (i.1.length:Int)))],mkH [],gz,[]⟩)
  ([],L,M) ⟨rfl,rfl⟩ (by kernel_rfl)
  (fun h=>good_sub _ [(0,.v (.slice a1 n1 cap1)),(1,.v (.slice a2 n2 cap2)),(5,.v (.int .i64 (([]:List Vr).length:Int)))] [] gz rfl (by kernel_rfl) (by kernel_rfl) (by kernel_rfl) (by kernel_rfl) (by kernel_rfl) (fun b hb=>hγ0 b hb) (by kernel_rfl) h) ?_
 rintro ⟨l1,l2,m2⟩ ⟨hI1,hI2⟩ ih
 simp only at hI1 hI2
 have hq1:n1=l1.length+l2.length:=by rw [hn1,hI1,List.length_append]
 have hq2:n2=l1.length+m2.length:=by rw [hn2,hI2,List.length_append]
 refine rk ?_
 cases l2 with
 | nil=>
   obtain rfl:m2=[]:=List.eq_nil_of_length_eq_zero (by simp only [List.length_nil] at hq1;omega)
   refine gK false (b:=intLt (l1.length:Int) (n1:Int)) (lt_f (by rw [hq1];simp)) ?_
   refine rk ?_
   refine gR (.bool true) (fun W hk=>⟨?_,hk.below⟩)
   rw [sameB_t.2 (by rw [hI1,hI2])]
 | cons x l3=>
   obtain ⟨y,m3,rfl⟩:∃ y m3,m2=y::m3:=by
    cases m2 with
    | nil=>simp only [List.length_nil,List.length_cons] at hq1 hq2;omega
    | cons a b=>exact ⟨a,b,rfl⟩
   have hin1:l1.length<n1:=by rw [hq1,List.length_cons];omega
   have hin2:l1.length<n2:=by omega
   have hks1':=hks1
   have hks2':=hks2
   rw [hI1] at hks1'
   rw [hI2] at hks2'
   obtain ⟨c1,hc1,hcell1⟩:=hks1'.at_ (fun _ _ h=>h.len)
   obtain ⟨c2,hc2,hcell2⟩:=hks2'.at_ (fun _ _ h=>h.len)
   refine gK true (b:=intLt (l1.length:Int) (n1:Int)) (lt_t (by omega)) ?_
   refine rk ?_
   obtain rfl:c1=[.string (str x.name),.int .u8 x.ty,.int .u64 x.bits]:=hc1
   obtain rfl:c2=[.string (str y.name),.int .u8 y.ty,.int .u64 y.bits]:=hc2
   refine good_draw sy_mixed (by kernel_rfl) ?_
   refine q_run [] 60 ?_
   refine qV (.pointer (some ⟨gB a1,oB a1+l1.length*3,none⟩)) (S:=Instr.indexAt 22 (.slice a1 n1 cap1) (.int .i64 (l1.length:Int))) (fun W _=>idx_sl (e:=67) hsl1 (by kernel_rfl) (by kernel_rfl) hin1 W) ?_
   refine q_run [] 60 ?_
   refine qV (.agg #[.string (str x.name),.int .u8 x.ty,.int .u64 x.bits]) (S:=Instr.loadAt 67 (.pointer (some ⟨gB a1,oB a1+l1.length*3+0,none⟩))) (fun W hk=>load_slA (P:=Tryz.prog) (ty:=67) (m:=3) (cs:=[.string (str x.name),.int .u8 x.ty,.int .u64 x.bits]) hsl1 (by kernel_rfl) (by kernel_rfl) l1.length 0 rfl hcell1 hk) ?_
   refine q_run [] 60 ?_
   refine qV (.pointer (some ⟨gB a2,oB a2+l1.length*3,none⟩)) (S:=Instr.indexAt 22 (.slice a2 n2 cap2) (.int .i64 (l1.length:Int))) (fun W _=>idx_sl (e:=67) hsl2 (by kernel_rfl) (by kernel_rfl) hin2 W) ?_
   refine q_run [] 60 ?_
   refine qV (.agg #[.string (str y.name),.int .u8 y.ty,.int .u64 y.bits]) (S:=Instr.loadAt 67 (.pointer (some ⟨gB a2,oB a2+l1.length*3+0,none⟩))) (fun W hk=>load_slA (P:=Tryz.prog) (ty:=67) (m:=3) (cs:=[.string (str y.name),.int .u8 y.ty,.int .u64 y.bits]) hsl2 (by kernel_rfl) (by kernel_rfl) l1.length 0 rfl hcell2 hk) ?_
   refine q_run [25] 60 ?_
   refine qV (.bool (!(vrEq x y))) (S:=do eqGuard .neq 67 (.tmp 20) (.tmp 24) (.agg #[.string (str x.name),.int .u8 x.ty,.int .u64 x.bits]) (.agg #[.string (str y.name),.int .u8 y.ty,.int .u64 y.bits]);binOp .neq 67 (.agg #[.string (str x.name),.int .u8 x.ty,.int .u64 x.bits]) (.agg #[.string (str y.name),.int .u8 y.ty,.int .u64 y.bits])) (fun W _=>run_neq_var _ _ _ _ W) ?_
   refine q_run [] 60 ?_
   refine qE ?_
   refine rk ?_
   refine good_cond (b:=!(vrEq x y)) (by kernel_rfl) (fun hss=>?_) (fun hss=>?_)
   ·
    have hne:x≠y:=fun h=>by rw [vrEq_t.2 h] at hss;cases hss
    refine rs [] 60 2 ?_
    refine gR (.bool false) (fun W hk=>⟨?_,hk.below⟩)
    rw [sameB_f]
    intro h
    rw [hI1,hI2] at h
    have h2:=(List.cons.inj (List.append_cancel_left h)).1
    exact hne h2
   ·
    have hxy:x=y:=vrEq_t.1 (by simpa using hss)
    refine rs [] 60 2 ?_
    refine gS 5 (x := .int .i64 (wrapF .i64 (((l1.length:Nat):Int)+1))) (.int .i64 ((((l1++[x]).length:Nat):Int))) (by rw [wr64 (n:=((l1.length:Nat):Int)+1) (by omega) (by omega)];congr 1;simp) ?_
    exact gU _ [(0,.v (.slice a1 n1 cap1)),(1,.v (.slice a2 n2 cap2)),(5,.v (.int .i64 ((l1++[x]).length:Int)))] [] gz (fun b hb=>hγ0 b hb) (ih (l1++[x],l3,m3) ⟨(by show L=(l1++[_])++l3;rw [hI1];simp),(by show M=(l1++[_])++m3;rw [hI2,← hxy];simp)⟩ (by show l3.length<(_::l3).length;simp))
end Go.Proofs.YtiacalnkmnckjaaGreatDoor
end
section
namespace Go.Proofs.YtiacalnkmnckjaaGreatDoor
open Go.RowKit Go.As
open Go.Sy in
set_option maxRecDepth 100000 in
theorem sameStmts_any:∀ (N:Nat) (L M:List St) (a1 a2:Option Addr) (n1 n2 cap1 cap2:Nat) (xs1 xs2:List Value) (w:World),n1=L.length→n2=M.length→swts L<N→swts L≤1099511627776→
  Sy.SlAt (·<w.heap.size) w a1 n1 9 xs1→Sy.SlAt (·<w.heap.size) w a2 n2 9 xs2→LsAt (StAt (·<w.heap.size) w) L xs1→LsAt (StAt (·<w.heap.size) w) M xs2→
  Calls Tryz.prog 68 #[.slice a1 n1 cap1,.slice a2 n2 cap2] w fun r w'=>r = .returned (.bool (sameB L M))∧Below w.heap.size w w':=by
 intro N
 induction N with
 | zero=>intro L M a1 a2 n1 n2 cap1 cap2 xs1 xs2 w hn1 hn2 h;omega
 | succ N ihN=>
 intro L M a1 a2 n1 n2 cap1 cap2 xs1 xs2 w hn1 hn2 hN hbd hsl1 hsl2 hks1 hks2
 have hnl:=swts_len L
 refine Sy.enter (vs:=[.slice a1 n1 cap1,.slice a2 n2 cap2]) sy_fine Tryz.func68 rfl (fun γ=>norms_LR _) rfl (fun γ0 hγ0=>?_)
 refine rk ?_
 refine good_cond (b:=!(intEq (n1:Int) (n2:Int))) (by kernel_rfl) (fun hnn=>?_) (fun hnn=>?_)
 ·
  refine rs [] 60 2 ?_
  refine gR (.bool false) (fun W hk=>⟨?_,hk.below⟩)
  rw [sameB_f]
  intro h
  rw [intEq_eq] at hnn;simp_all
 have hnn1:n1=n2:=by rw [intEq_eq] at hnn;have:(n1:Int)=(n2:Int):=(by simpa using hnn);omega
 refine rk ?_
 refine good_toLp ?_
 refine good_loopI (fun i:List St×List St×List St=>i.2.1.length) (fun i=>L=i.1++i.2.1∧M=i.1++i.2.2) (fun i=>⟨mkT [(0,.v (.slice a1 n1 cap1)),(1,.v (.slice a2 n2 cap2)),(5,.v (.int .i64 (i.1.length:Int)))],mkH [],gz,[]⟩)
  ([],L,M) ⟨rfl,rfl⟩ (by kernel_rfl)
  (fun h=>good_sub _ [(0,.v (.slice a1 n1 cap1)),(1,.v (.slice a2 n2 cap2)),(5,.v (.int .i64 (([]:List St).length:Int)))] [] gz rfl (by kernel_rfl) (by kernel_rfl) (by kernel_rfl) (by kernel_rfl) (by kernel_rfl) (fun b hb=>hγ0 b hb) (by kernel_rfl) h) ?_
 rintro ⟨l1,l2,m2⟩ ⟨hI1,hI2⟩ ih
 simp only at hI1 hI2
 have hq1:n1=l1.length+l2.length:=by rw [hn1,hI1,List.length_append]
 have hq2:n2=l1.length+m2.length:=by rw [hn2,hI2,List.length_append]
 refine rk ?_
 cases l2 with
 | nil=>
   obtain rfl:m2=[]:=List.eq_nil_of_length_eq_zero (by simp only [List.length_nil] at hq1;omega)
   refine gK false (b:=intLt (l1.length:Int) (n1:Int)) (lt_f (by rw [hq1];simp)) ?_
   refine rk ?_
   refine gR (.bool true) (fun W hk=>⟨?_,hk.below⟩)
   rw [sameB_t.2 (by rw [hI1,hI2])]
 | cons x l3=>
   obtain ⟨y,m3,rfl⟩:∃ y m3,m2=y::m3:=by
    cases m2 with
    | nil=>simp only [List.length_nil,List.length_cons] at hq1 hq2;omega
    | cons a b=>exact ⟨a,b,rfl⟩
   have hin1:l1.length<n1:=by rw [hq1,List.length_cons];omega
   have hin2:l1.length<n2:=by omega
   have hks1':=hks1
   have hks2':=hks2
   rw [hI1] at hks1'
   rw [hI2] at hks2'
   obtain ⟨c1,hc1,hcell1⟩:=hks1'.at_ (fun _ _ h=>h.len)
   obtain ⟨c2,hc2,hcell2⟩:=hks2'.at_ (fun _ _ h=>h.len)
   refine gK true (b:=intLt (l1.length:Int) (n1:Int)) (lt_t (by omega)) ?_
   refine rk ?_
   have hwl:swts L=swts l1+(swt x+swts l3):=by rw [hI1,swts_app];simp [swts]
   obtain ⟨ukind,usn,⟨uop,uty,ubits,uen,uek⟩,ubody,uels⟩:=x
   simp only [StAt] at hc1
   obtain ⟨ucs,uba,ubc,ubx,ula,ulc,ulx,rfl,uhe,uhbs,uhbt,uhls,uhlt⟩:=hc1
   have uhe0:=uhe
   simp only [ExAt] at uhe0
   obtain ⟨uea,uec,uex,rfl,_⟩:=uhe0
   have hcell1:∀ j v,([.int .i64 ukind,.string (str usn),.int .u8 uop,.int .u8 uty,.int .u64 ubits,.string (str uen),.slice uea uek.length uec,.slice uba ubody.length ubc,.slice ula uels.length ulc]:List Value)[j]?=some v→xs1[l1.length*9+j]?=some v:=hcell1
   have umid:∀ j v,([.int .u8 uop,.int .u8 uty,.int .u64 ubits,.string (str uen),.slice uea uek.length uec]:List Value)[j]?=some v→xs1[l1.length*9+2+j]?=some v:=cell_part hcell1 2 (mid_get [_,_] [.int .u8 uop,.int .u8 uty,.int .u64 ubits,.string (str uen),.slice uea uek.length uec] [_,_])
   obtain ⟨vkind,vsn,⟨vop,vty,vbits,ven,vek⟩,vbody,vels⟩:=y
   simp only [StAt] at hc2
   obtain ⟨vcs,vba,vbc,vbx,vla,vlc,vlx,rfl,vhe,vhbs,vhbt,vhls,vhlt⟩:=hc2
   have vhe0:=vhe
   simp only [ExAt] at vhe0
   obtain ⟨vea,vec,vex,rfl,_⟩:=vhe0
   have hcell2:∀ j v,([.int .i64 vkind,.string (str vsn),.int .u8 vop,.int .u8 vty,.int .u64 vbits,.string (str ven),.slice vea vek.length vec,.slice vba vbody.length vbc,.slice vla vels.length vlc]:List Value)[j]?=some v→xs2[l1.length*9+j]?=some v:=hcell2
   have vmid:∀ j v,([.int .u8 vop,.int .u8 vty,.int .u64 vbits,.string (str ven),.slice vea vek.length vec]:List Value)[j]?=some v→xs2[l1.length*9+2+j]?=some v:=cell_part hcell2 2 (mid_get [_,_] [.int .u8 vop,.int .u8 vty,.int .u64 vbits,.string (str ven),.slice vea vek.length vec] [_,_])
   simp only [swt] at hwl
   refine good_draw sy_mixed (by kernel_rfl) ?_
   refine q_run [] 60 ?_
   refine qV (.pointer (some ⟨gB a1,oB a1+l1.length*9,none⟩)) (S:=Instr.indexAt 54 (.slice a1 n1 cap1) (.int .i64 (l1.length:Int))) (fun W _=>idx_sl (e:=56) hsl1 (by kernel_rfl) (by kernel_rfl) hin1 W) ?_
   refine q_run [] 60 ?_
   refine qV (.int .i64 ukind) (S:=Instr.loadAt 3 (.pointer (some ⟨gB a1,oB a1+l1.length*9+0,none⟩))) (fun W hk=>load_sl hsl1 (by kernel_rfl) l1.length 0 (hcell1 0 _ rfl) hk) ?_
   refine q_run [] 60 ?_
   refine qV (.pointer (some ⟨gB a2,oB a2+l1.length*9,none⟩)) (S:=Instr.indexAt 54 (.slice a2 n2 cap2) (.int .i64 (l1.length:Int))) (fun W _=>idx_sl (e:=56) hsl2 (by kernel_rfl) (by kernel_rfl) hin2 W) ?_
   refine q_run [] 60 ?_
   refine qV (.int .i64 vkind) (S:=Instr.loadAt 3 (.pointer (some ⟨gB a2,oB a2+l1.length*9+0,none⟩))) (fun W hk=>load_sl hsl2 (by kernel_rfl) l1.length 0 (hcell2 0 _ rfl) hk) ?_
   refine q_run [29] 60 ?_
   rcases Bool.eq_false_or_eq_true (intEq ukind vkind) with hk1 | hk1
   rotate_left
   ·
    refine qS 27 (x := .bool (!(intEq ukind vkind))) (.bool true) (by rw [hk1];rfl) ?_
    refine qS 28 (x := .bool (!(intEq ukind vkind))) (.bool true) (by rw [hk1];rfl) ?_
    have hne:(St.mk ukind usn (Ex.mk uop uty ubits uen uek) ubody uels)≠(St.mk vkind vsn (Ex.mk vop vty vbits ven vek) vbody vels):=by intro h;injection h;rw [intEq_eq] at hk1;simp_all
    refine q_run [] 60 ?_
    refine qE ?_
    refine rs [] 60 3 ?_
    refine gR (.bool false) (fun W hk=>⟨?_,hk.below⟩)
    rw [sameB_f]
    intro h
    rw [hI1,hI2] at h
    have h2:=(List.cons.inj (List.append_cancel_left h)).1
    exact hne h2
   refine qS 27 (x := .bool (!(intEq ukind vkind))) (.bool false) (by rw [hk1];rfl) ?_
   refine qS 28 (x := .bool (!(intEq ukind vkind))) (.bool false) (by rw [hk1];rfl) ?_
   refine q_run [] 60 ?_
   refine qV (.pointer (some ⟨gB a1,oB a1+l1.length*9,none⟩)) (S:=Instr.indexAt 54 (.slice a1 n1 cap1) (.int .i64 (l1.length:Int))) (fun W _=>idx_sl (e:=56) hsl1 (by kernel_rfl) (by kernel_rfl) hin1 W) ?_
   refine q_run [] 60 ?_
   refine qV (.string (str usn)) (S:=Instr.loadAt 9 (.pointer (some ⟨gB a1,oB a1+l1.length*9+1,none⟩))) (fun W hk=>load_sl hsl1 (by kernel_rfl) l1.length 1 (hcell1 1 _ rfl) hk) ?_
   refine q_run [] 60 ?_
   refine qV (.pointer (some ⟨gB a2,oB a2+l1.length*9,none⟩)) (S:=Instr.indexAt 54 (.slice a2 n2 cap2) (.int .i64 (l1.length:Int))) (fun W _=>idx_sl (e:=56) hsl2 (by kernel_rfl) (by kernel_rfl) hin2 W) ?_
   refine q_run [] 60 ?_
   refine qV (.string (str vsn)) (S:=Instr.loadAt 9 (.pointer (some ⟨gB a2,oB a2+l1.length*9+1,none⟩))) (fun W hk=>load_sl hsl2 (by kernel_rfl) l1.length 1 (hcell2 1 _ rfl) hk) ?_
   refine q_run [42] 60 ?_
   rcases Bool.eq_false_or_eq_true (bEqL usn vsn) with hk2 | hk2
   rotate_left
   ·
    refine qS 39 (x := .bool (!(bEqL usn vsn))) (.bool true) (by rw [hk2];rfl) ?_
    refine qS 40 (x := .bool (!(bEqL usn vsn))) (.bool true) (by rw [hk2];rfl) ?_
    refine qS 41 (x := .bool (!(bEqL usn vsn))) (.bool true) (by rw [hk2];rfl) ?_
    have hne:(St.mk ukind usn (Ex.mk uop uty ubits uen uek) ubody uels)≠(St.mk vkind vsn (Ex.mk vop vty vbits ven vek) vbody vels):=by intro h;injection h;rw [bEqL_eq] at hk2;simp_all
    refine q_run [] 60 ?_
    refine qE ?_
    refine rs [] 60 3 ?_
    refine gR (.bool false) (fun W hk=>⟨?_,hk.below⟩)
    rw [sameB_f]
    intro h
    rw [hI1,hI2] at h
    have h2:=(List.cons.inj (List.append_cancel_left h)).1
    exact hne h2
   refine qS 39 (x := .bool (!(bEqL usn vsn))) (.bool false) (by rw [hk2];rfl) ?_
   refine qS 40 (x := .bool (!(bEqL usn vsn))) (.bool false) (by rw [hk2];rfl) ?_
   refine qS 41 (x := .bool (!(bEqL usn vsn))) (.bool false) (by rw [hk2];rfl) ?_
   refine q_run [] 60 ?_
   refine qV (.pointer (some ⟨gB a1,oB a1+l1.length*9,none⟩)) (S:=Instr.indexAt 54 (.slice a1 n1 cap1) (.int .i64 (l1.length:Int))) (fun W _=>idx_sl (e:=56) hsl1 (by kernel_rfl) (by kernel_rfl) hin1 W) ?_
   refine q_run [] 60 ?_
   refine qV (.agg #[.int .u8 uop,.int .u8 uty,.int .u64 ubits,.string (str uen),.slice uea uek.length uec]) (S:=Instr.loadAt 34 (.pointer (some ⟨gB a1,oB a1+l1.length*9+2,none⟩))) (fun W hk=>load_slA (P:=Tryz.prog) (ty:=34) (m:=5) (cs:=[.int .u8 uop,.int .u8 uty,.int .u64 ubits,.string (str uen),.slice uea uek.length uec]) hsl1 (by kernel_rfl) (by kernel_rfl) l1.length 2 rfl umid hk) ?_
   refine q_run [] 60 ?_
   refine qV (.pointer (some ⟨gB a2,oB a2+l1.length*9,none⟩)) (S:=Instr.indexAt 54 (.slice a2 n2 cap2) (.int .i64 (l1.length:Int))) (fun W _=>idx_sl (e:=56) hsl2 (by kernel_rfl) (by kernel_rfl) hin2 W) ?_
   refine q_run [] 60 ?_
   refine qV (.agg #[.int .u8 vop,.int .u8 vty,.int .u64 vbits,.string (str ven),.slice vea vek.length vec]) (S:=Instr.loadAt 34 (.pointer (some ⟨gB a2,oB a2+l1.length*9+2,none⟩))) (fun W hk=>load_slA (P:=Tryz.prog) (ty:=34) (m:=5) (cs:=[.int .u8 vop,.int .u8 vty,.int .u64 vbits,.string (str ven),.slice vea vek.length vec]) hsl2 (by kernel_rfl) (by kernel_rfl) l1.length 2 rfl vmid hk) ?_
   refine q_run [] 60 ?_
   refine qB [.agg #[.int .u8 uop,.int .u8 uty,.int .u64 ubits,.string (str uen),.slice uea uek.length uec],.agg #[.int .u8 vop,.int .u8 vty,.int .u64 vbits,.string (str ven),.slice vea vek.length vec]] (.bool (sameEx (Ex.mk uop uty ubits uen uek) (Ex.mk vop vty vbits ven vek))) (fun W hk=>sameExpr_any _ (Ex.mk uop uty ubits uen uek) (Ex.mk vop vty vbits ven vek) [.int .u8 uop,.int .u8 uty,.int .u64 ubits,.string (str uen),.slice uea uek.length uec] [.int .u8 vop,.int .u8 vty,.int .u64 vbits,.string (str ven),.slice vea vek.length vec] W (Nat.le_refl _) (by omega) (uhe.keep hk (fun k h=>Nat.lt_of_lt_of_le h hk.size)) (vhe.keep hk (fun k h=>Nat.lt_of_lt_of_le h hk.size))) ?_
   refine q_run [56] 60 ?_
   rcases Bool.eq_false_or_eq_true (sameEx (Ex.mk uop uty ubits uen uek) (Ex.mk vop vty vbits ven vek)) with hk3 | hk3
   rotate_left
   ·
    refine qS 53 (x := .bool (!(sameEx (Ex.mk uop uty ubits uen uek) (Ex.mk vop vty vbits ven vek)))) (.bool true) (by rw [hk3];rfl) ?_
    refine qS 54 (x := .bool (!(sameEx (Ex.mk uop uty ubits uen uek) (Ex.mk vop vty vbits ven vek)))) (.bool true) (by rw [hk3];rfl) ?_
    refine qS 55 (x := .bool (!(sameEx (Ex.mk uop uty ubits uen uek) (Ex.mk vop vty vbits ven vek)))) (.bool true) (by rw [hk3];rfl) ?_
    have hne:(St.mk ukind usn (Ex.mk uop uty ubits uen uek) ubody uels)≠(St.mk vkind vsn (Ex.mk vop vty vbits ven vek) vbody vels):=by intro h;injection h with _ _ h _ _;rw [sameEx_t.2 h] at hk3;cases hk3
    refine q_run [] 60 ?_
    refine qE ?_
    refine rs [] 60 3 ?_
    refine gR (.bool false) (fun W hk=>⟨?_,hk.below⟩)
    rw [sameB_f]
    intro h
    rw [hI1,hI2] at h
    have h2:=(List.cons.inj (List.append_cancel_left h)).1
    exact hne h2
   refine qS 53 (x := .bool (!(sameEx (Ex.mk uop uty ubits uen uek) (Ex.mk vop vty vbits ven vek)))) (.bool false) (by rw [hk3];rfl) ?_
   refine qS 54 (x := .bool (!(sameEx (Ex.mk uop uty ubits uen uek) (Ex.mk vop vty vbits ven vek)))) (.bool false) (by rw [hk3];rfl) ?_
   refine qS 55 (x := .bool (!(sameEx (Ex.mk uop uty ubits uen uek) (Ex.mk vop vty vbits ven vek)))) (.bool false) (by rw [hk3];rfl) ?_
   refine q_run [] 60 ?_
   refine qV (.pointer (some ⟨gB a1,oB a1+l1.length*9,none⟩)) (S:=Instr.indexAt 54 (.slice a1 n1 cap1) (.int .i64 (l1.length:Int))) (fun W _=>idx_sl (e:=56) hsl1 (by kernel_rfl) (by kernel_rfl) hin1 W) ?_
   refine q_run [] 60 ?_
   refine qV (.slice uba ubody.length ubc) (S:=Instr.loadAt 54 (.pointer (some ⟨gB a1,oB a1+l1.length*9+7,none⟩))) (fun W hk=>load_sl hsl1 (by kernel_rfl) l1.length 7 (hcell1 7 _ rfl) hk) ?_
   refine q_run [] 60 ?_
   refine qV (.pointer (some ⟨gB a2,oB a2+l1.length*9,none⟩)) (S:=Instr.indexAt 54 (.slice a2 n2 cap2) (.int .i64 (l1.length:Int))) (fun W _=>idx_sl (e:=56) hsl2 (by kernel_rfl) (by kernel_rfl) hin2 W) ?_
   refine q_run [] 60 ?_
   refine qV (.slice vba vbody.length vbc) (S:=Instr.loadAt 54 (.pointer (some ⟨gB a2,oB a2+l1.length*9+7,none⟩))) (fun W hk=>load_sl hsl2 (by kernel_rfl) l1.length 7 (hcell2 7 _ rfl) hk) ?_
   refine q_run [] 60 ?_
   refine qB [.slice uba ubody.length ubc,.slice vba vbody.length vbc] (.bool (sameB ubody vbody)) (fun W hk=>ihN ubody vbody _ _ _ _ _ _ _ _ W rfl rfl (by omega) (by omega) ((uhbs.keep hk).mono (fun k h=>Nat.lt_of_lt_of_le h hk.size)) ((vhbs.keep hk).mono (fun k h=>Nat.lt_of_lt_of_le h hk.size)) (StsAt_ls.1 (uhbt.keep hk (fun k h=>Nat.lt_of_lt_of_le h hk.size))) (StsAt_ls.1 (vhbt.keep hk (fun k h=>Nat.lt_of_lt_of_le h hk.size)))) ?_
   refine q_run [70] 60 ?_
   rcases Bool.eq_false_or_eq_true (sameB ubody vbody) with hk4 | hk4
   rotate_left
   ·
    refine qS 67 (x := .bool (!(sameB ubody vbody))) (.bool true) (by rw [hk4];rfl) ?_
    refine qS 68 (x := .bool (!(sameB ubody vbody))) (.bool true) (by rw [hk4];rfl) ?_
    refine qS 69 (x := .bool (!(sameB ubody vbody))) (.bool true) (by rw [hk4];rfl) ?_
    have hne:(St.mk ukind usn (Ex.mk uop uty ubits uen uek) ubody uels)≠(St.mk vkind vsn (Ex.mk vop vty vbits ven vek) vbody vels):=by intro h;injection h with _ _ _ h _;rw [sameB_t.2 h] at hk4;cases hk4
    refine q_run [] 60 ?_
    refine qE ?_
    refine rs [] 60 3 ?_
    refine gR (.bool false) (fun W hk=>⟨?_,hk.below⟩)
    rw [sameB_f]
    intro h
    rw [hI1,hI2] at h
    have h2:=(List.cons.inj (List.append_cancel_left h)).1
    exact hne h2
   refine qS 67 (x := .bool (!(sameB ubody vbody))) (.bool false) (by rw [hk4];rfl) ?_
   refine qS 68 (x := .bool (!(sameB ubody vbody))) (.bool false) (by rw [hk4];rfl) ?_
   refine qS 69 (x := .bool (!(sameB ubody vbody))) (.bool false) (by rw [hk4];rfl) ?_
   refine q_run [] 60 ?_
   refine qV (.pointer (some ⟨gB a1,oB a1+l1.length*9,none⟩)) (S:=Instr.indexAt 54 (.slice a1 n1 cap1) (.int .i64 (l1.length:Int))) (fun W _=>idx_sl (e:=56) hsl1 (by kernel_rfl) (by kernel_rfl) hin1 W) ?_
   refine q_run [] 60 ?_
   refine qV (.slice ula uels.length ulc) (S:=Instr.loadAt 54 (.pointer (some ⟨gB a1,oB a1+l1.length*9+8,none⟩))) (fun W hk=>load_sl hsl1 (by kernel_rfl) l1.length 8 (hcell1 8 _ rfl) hk) ?_
   refine q_run [] 60 ?_
   refine qV (.pointer (some ⟨gB a2,oB a2+l1.length*9,none⟩)) (S:=Instr.indexAt 54 (.slice a2 n2 cap2) (.int .i64 (l1.length:Int))) (fun W _=>idx_sl (e:=56) hsl2 (by kernel_rfl) (by kernel_rfl) hin2 W) ?_
   refine q_run [] 60 ?_
   refine qV (.slice vla vels.length vlc) (S:=Instr.loadAt 54 (.pointer (some ⟨gB a2,oB a2+l1.length*9+8,none⟩))) (fun W hk=>load_sl hsl2 (by kernel_rfl) l1.length 8 (hcell2 8 _ rfl) hk) ?_
   refine q_run [] 60 ?_
   refine qB [.slice ula uels.length ulc,.slice vla vels.length vlc] (.bool (sameB uels vels)) (fun W hk=>ihN uels vels _ _ _ _ _ _ _ _ W rfl rfl (by omega) (by omega) ((uhls.keep hk).mono (fun k h=>Nat.lt_of_lt_of_le h hk.size)) ((vhls.keep hk).mono (fun k h=>Nat.lt_of_lt_of_le h hk.size)) (StsAt_ls.1 (uhlt.keep hk (fun k h=>Nat.lt_of_lt_of_le h hk.size))) (StsAt_ls.1 (vhlt.keep hk (fun k h=>Nat.lt_of_lt_of_le h hk.size)))) ?_
   refine q_run [] 60 ?_
   refine qE ?_
   refine rk ?_
   refine good_cond (b:=!(sameB uels vels)) (by kernel_rfl) (fun hss=>?_) (fun hss=>?_)
   ·
    have hne:(St.mk ukind usn (Ex.mk uop uty ubits uen uek) ubody uels)≠(St.mk vkind vsn (Ex.mk vop vty vbits ven vek) vbody vels):=by intro h;injection h with _ _ _ _ h;rw [sameB_t.2 h] at hss;cases hss
    refine rs [] 60 2 ?_
    refine gR (.bool false) (fun W hk=>⟨?_,hk.below⟩)
    rw [sameB_f]
    intro h
    rw [hI1,hI2] at h
    have h2:=(List.cons.inj (List.append_cancel_left h)).1
    exact hne h2
   ·
    have hxy:(St.mk ukind usn (Ex.mk uop uty ubits uen uek) ubody uels)=(St.mk vkind vsn (Ex.mk vop vty vbits ven vek) vbody vels):=by
     have h5:uels=vels:=sameB_t.1 (by simpa using hss)
     have h4:=sameB_t.1 hk4
     have h3:=sameEx_t.1 hk3
     rw [bEqL_eq] at hk2
     rw [intEq_eq] at hk1
     have h2:usn=vsn:=by simpa using hk2
     have h1:ukind=vkind:=by simpa using hk1
     rw [h1,h2,h3,h4,h5]
    refine rs [] 60 2 ?_
    refine gS 5 (x := .int .i64 (wrapF .i64 (((l1.length:Nat):Int)+1))) (.int .i64 ((((l1++[(St.mk ukind usn (Ex.mk uop uty ubits uen uek) ubody uels)]).length:Nat):Int))) (by rw [wr64 (n:=((l1.length:Nat):Int)+1) (by omega) (by omega)];congr 1;simp) ?_
    exact gU _ [(0,.v (.slice a1 n1 cap1)),(1,.v (.slice a2 n2 cap2)),(5,.v (.int .i64 ((l1++[(St.mk ukind usn (Ex.mk uop uty ubits uen uek) ubody uels)]).length:Int)))] [] gz (fun b hb=>hγ0 b hb) (ih (l1++[(St.mk ukind usn (Ex.mk uop uty ubits uen uek) ubody uels)],l3,m3) ⟨(by show L=(l1++[_])++l3;rw [hI1];simp),(by show M=(l1++[_])++m3;rw [hI2,← hxy];simp)⟩ (by show l3.length<(_::l3).length;simp))
end Go.Proofs.YtiacalnkmnckjaaGreatDoor
end
section
namespace Go.Proofs.YtiacalnkmnckjaaGreatDoor
open Go.RowKit Go.As
open Go.Sy in
set_option maxRecDepth 100000 in
theorem sameProgram_any (p q:Pg) (cs1 cs2:List Value) (w:World) (hbd0:pwt p≤1099511627776) (hp:PgAt (·<w.heap.size) w p cs1) (hq:PgAt (·<w.heap.size) w q cs2):
  Calls Tryz.prog 22 #[.agg cs1.toArray,.agg cs2.toArray] w fun r w'=>r = .returned (.bool (sameB p q))∧Below w.heap.size w w':=by
 obtain ⟨pa,pcap,pxs0,pb,pcap2,pys0,pd,pcap3,pzs0,rfl,pxs,pxt,pys,pyt,pzs,pzt⟩:=hp
 obtain ⟨pns,hpns⟩:∃ n,n=p.shared.length:=⟨_,rfl⟩
 rw [← hpns] at pxs ⊢
 obtain ⟨pnm,hpnm⟩:∃ n,n=p.mutexes.length:=⟨_,rfl⟩
 rw [← hpnm] at pys ⊢
 obtain ⟨pnt,hpnt⟩:∃ n,n=p.threads.length:=⟨_,rfl⟩
 rw [← hpnt] at pzs ⊢
 obtain ⟨qa,qcap,qxs0,qb,qcap2,qys0,qd,qcap3,qzs0,rfl,qxs,qxt,qys,qyt,qzs,qzt⟩:=hq
 obtain ⟨qns,hqns⟩:∃ n,n=q.shared.length:=⟨_,rfl⟩
 rw [← hqns] at qxs ⊢
 obtain ⟨qnm,hqnm⟩:∃ n,n=q.mutexes.length:=⟨_,rfl⟩
 rw [← hqnm] at qys ⊢
 obtain ⟨qnt,hqnt⟩:∃ n,n=q.threads.length:=⟨_,rfl⟩
 rw [← hqnt] at qzs ⊢
 have hbd:pns+pnm+thws p.threads≤1099511627776:=by rw [hpns,hpnm];exact hbd0
 have hnl:=thws_len p.threads
 refine Sy.enter (vs:=[.agg #[.slice pa pns pcap,.slice pb pnm pcap2,.slice pd pnt pcap3],.agg #[.slice qa qns qcap,.slice qb qnm qcap2,.slice qd qnt qcap3]]) sy_fine Tryz.func22 rfl (fun γ=>norms_LR _) rfl (fun γ0 hγ0=>?_)
 refine rs [8] 60 0 ?_
 refine good_lock [gz,gz+1] (gz+2) (by kernel_rfl) (fun b hb=>hγ0 b (Nat.le_trans (Nat.le_add_right _ 2) hb)) ?_
 intro γ1 B1 w1 hle1 hγ1 hB01 hB1 hk01 hLk
 have pxs1:=(pxs.keep hk01).mono hB01
 have pys1:=(pys.keep hk01).mono hB01
 have pzs1:=(pzs.keep hk01).mono hB01
 have pzt1:=pzt.imp (fun _ _ h=>ThAt.keep hk01 hB01 h)
 have qxs1:=(qxs.keep hk01).mono hB01
 have qys1:=(qys.keep hk01).mono hB01
 have qzs1:=(qzs.keep hk01).mono hB01
 have qzt1:=qzt.imp (fun _ _ h=>ThAt.keep hk01 hB01 h)
 refine rk ?_
 refine gX [.slice pa pns pcap,.slice qa qns qcap] (.bool (sameB p.shared q.shared)) (fun W hk=>sameVars_any p.shared q.shared _ _ _ _ _ _ _ _ W hpns hqns (by omega) ((pxs1.keep hk).mono (fun k h=>Nat.lt_of_lt_of_le (hB1 k h) hk.size)) ((qxs1.keep hk).mono (fun k h=>Nat.lt_of_lt_of_le (hB1 k h) hk.size)) pxt qxt) ?_
 refine rs [15] 60 0 ?_
 rcases Bool.eq_false_or_eq_true (sameB p.shared q.shared) with hk1 | hk1
 rotate_left
 ·
  refine gS 13 (x := .bool (!(sameB p.shared q.shared))) (.bool true) (by rw [hk1];rfl) ?_
  refine gS 14 (x := .bool (!(sameB p.shared q.shared))) (.bool true) (by rw [hk1];rfl) ?_
  refine rs [] 60 4 ?_
  refine gR (.bool false) (fun W hk=>⟨?_,(hk01.trans (hk.mono hB01)).below⟩)
  rw [sameB_f]
  intro h
  rw [sameB_t.2 (by rw [h])] at hk1;cases hk1
 refine gS 13 (x := .bool (!(sameB p.shared q.shared))) (.bool false) (by rw [hk1];rfl) ?_
 refine gS 14 (x := .bool (!(sameB p.shared q.shared))) (.bool false) (by rw [hk1];rfl) ?_
 refine rk ?_
 refine gX [.slice pb pnm pcap2,.slice qb qnm qcap2] (.bool (sameB p.mutexes q.mutexes)) (fun W hk=>sameTexts_any p.mutexes q.mutexes _ _ _ _ _ _ _ _ W hpnm hqnm (by omega) ((pys1.keep hk).mono (fun k h=>Nat.lt_of_lt_of_le (hB1 k h) hk.size)) ((qys1.keep hk).mono (fun k h=>Nat.lt_of_lt_of_le (hB1 k h) hk.size)) pyt qyt) ?_
 refine rs [23] 60 0 ?_
 rcases Bool.eq_false_or_eq_true (sameB p.mutexes q.mutexes) with hk2 | hk2
 rotate_left
 ·
  refine gS 20 (x := .bool (!(sameB p.mutexes q.mutexes))) (.bool true) (by rw [hk2];rfl) ?_
  refine gS 21 (x := .bool (!(sameB p.mutexes q.mutexes))) (.bool true) (by rw [hk2];rfl) ?_
  refine gS 22 (x := .bool (!(sameB p.mutexes q.mutexes))) (.bool true) (by rw [hk2];rfl) ?_
  refine rs [] 60 4 ?_
  refine gR (.bool false) (fun W hk=>⟨?_,(hk01.trans (hk.mono hB01)).below⟩)
  rw [sameB_f]
  intro h
  rw [sameB_t.2 (by rw [h])] at hk2;cases hk2
 refine gS 20 (x := .bool (!(sameB p.mutexes q.mutexes))) (.bool false) (by rw [hk2];rfl) ?_
 refine gS 21 (x := .bool (!(sameB p.mutexes q.mutexes))) (.bool false) (by rw [hk2];rfl) ?_
 refine gS 22 (x := .bool (!(sameB p.mutexes q.mutexes))) (.bool false) (by rw [hk2];rfl) ?_
 refine rk ?_
 refine good_cond (b:=!(intEq (pnt:Int) (qnt:Int))) (by kernel_rfl) (fun hnn=>?_) (fun hnn=>?_)
 ·
  refine rs [] 60 4 ?_
  refine gR (.bool false) (fun W hk=>⟨?_,(hk01.trans (hk.mono hB01)).below⟩)
  rw [sameB_f]
  intro h
  rw [intEq_eq] at hnn;simp_all
 have hnn1:pnt=qnt:=by rw [intEq_eq] at hnn;have:(pnt:Int)=(qnt:Int):=(by simpa using hnn);omega
 refine rk ?_
 refine good_toLp ?_
 refine good_loopI (fun i:List Th×List Th×List Th=>i.2.1.length) (fun i=>p.threads=i.1++i.2.1∧q.threads=i.1++i.2.2) (fun i=>⟨mkT [(2,.ptr gz 0),(3,.ptr (gz+1) 0),(5,.v (.int .i64 ((i.1.length:Nat):Int)))],mkH [(gz,some (.cells 26 false true true 3 (putL .leaf 0 [.v (.slice pa pns pcap),.v (.slice pb pnm pcap2),.v (.slice pd pnt pcap3)]))),(gz+1,some (.cells 26 false true true 3 (putL .leaf 0 [.v (.slice qa qns qcap),.v (.slice qb qnm qcap2),.v (.slice qd qnt qcap3)])))],gz+2,[]⟩)
  ([],p.threads,q.threads) ⟨rfl,rfl⟩ (by kernel_rfl)
  (fun h=>good_sub _ [(2,.ptr gz 0),(3,.ptr (gz+1) 0),(5,.v (.int .i64 ((([]:List Th).length:Nat):Int)))] [(gz,some (.cells 26 false true true 3 (putL .leaf 0 [.v (.slice pa pns pcap),.v (.slice pb pnm pcap2),.v (.slice pd pnt pcap3)]))),(gz+1,some (.cells 26 false true true 3 (putL .leaf 0 [.v (.slice qa qns qcap),.v (.slice qb qnm qcap2),.v (.slice qd qnt qcap3)])))] (gz+2) rfl (by kernel_rfl) (by kernel_rfl) (by kernel_rfl) (by kernel_rfl) (by kernel_rfl) hγ1 (by kernel_rfl) h) ?_
 rintro ⟨l1,l2,m2⟩ ⟨hI1,hI2⟩ ih
 simp only at hI1 hI2
 have hq1:pnt=l1.length+l2.length:=by rw [hpnt,hI1,List.length_append]
 have hq2:qnt=l1.length+m2.length:=by rw [hqnt,hI2,List.length_append]
 refine rk ?_
 cases l2 with
 | nil=>
   obtain rfl:m2=[]:=List.eq_nil_of_length_eq_zero (by simp only [List.length_nil] at hq1;omega)
   refine gK false (b:=intLt (l1.length:Int) (pnt:Int)) (lt_f (by rw [hq1];simp)) ?_
   refine rk ?_
   refine gR (.bool true) (fun W hk=>⟨?_,(hk01.trans (hk.mono hB01)).below⟩)
   have h1:=sameB_t.1 hk1
   have h2:=sameB_t.1 hk2
   have h3:p.threads=q.threads:=by rw [hI1,hI2]
   rw [sameB_t.2 (by cases p;cases q;simp_all)]
 | cons x l3=>
   obtain ⟨y,m3,rfl⟩:∃ y m3,m2=y::m3:=by
    cases m2 with
    | nil=>simp only [List.length_nil,List.length_cons] at hq1 hq2;omega
    | cons a b=>exact ⟨a,b,rfl⟩
   have hin1:l1.length<pnt:=by rw [hq1,List.length_cons];omega
   have hin2:l1.length<qnt:=by omega
   have hwl:thws p.threads=thws l1+(thw x+thws l3):=by rw [hI1,thws_app];simp [thws]
   simp only [thw] at hwl
   have hks1':=pzt1
   have hks2':=qzt1
   rw [hI1] at hks1'
   rw [hI2] at hks2'
   obtain ⟨c1,⟨xa,xcap,xxs,xb,xcap2,xys,rfl,xh1,xh2,xh3,xh4⟩,hcell1⟩:=hks1'.at_ (fun _ _ h=>h.len)
   obtain ⟨c2,⟨ya,ycap,yxs,yb,ycap2,yys,rfl,yh1,yh2,yh3,yh4⟩,hcell2⟩:=hks2'.at_ (fun _ _ h=>h.len)
   refine gK true (b:=intLt (l1.length:Int) (pnt:Int)) (lt_t (by omega)) ?_
   refine rk ?_
   refine good_plan sy_mixed (.take 0 (.take 1 (.take 2 (.take 3 (.take 4 (.take 5 (.take 6 (.take 7 (.take 8 (.take 9 (.alt (.run 10 (.run 11 (.run 12 .done))) (.run 11 (.run 10 (.run 12 .done)))))))))))))) 13 (by kernel_rfl) ?_
   have hL1:∀ b,hasNat b [gz,gz+1]=true→∃ p,γ1 b=some p∧B1 p.1:=fun b hb=>let ⟨p,h1,h2,_⟩:=hLk b hb;⟨p,h1,h2⟩
   refine p_takes [gz,gz+1] 3 (Bs:=B1) (ws:=w1) (by kernel_rfl) (fun _ h=>h) hL1 ?_
   refine p_val (.pointer (some ⟨gB pd,oB pd+l1.length*3,none⟩)) (S:=Instr.indexAt 24 (.slice pd pnt pcap3) (.int .i64 (l1.length:Int))) (by kernel_rfl) (Bs:=B1) (ws:=w1) (by kernel_rfl) (fun _ h=>h) (fun W _=>idx_sl (e:=58) pzs1 (by kernel_rfl) (by kernel_rfl) hin1 W) ?_
   refine p_val (.agg #[.string (str x.name),.slice xa x.locals.length xcap,.slice xb x.body.length xcap2]) (S:=Instr.loadAt 58 (.pointer (some ⟨gB pd,oB pd+l1.length*3+0,none⟩))) (by kernel_rfl) (Bs:=B1) (ws:=w1) (by kernel_rfl) (fun _ h=>h) (fun W hk=>load_slA (P:=Tryz.prog) (ty:=58) (m:=3) (cs:=[.string (str x.name),.slice xa x.locals.length xcap,.slice xb x.body.length xcap2]) pzs1 (by kernel_rfl) (by kernel_rfl) l1.length 0 rfl hcell1 hk) ?_
   refine p_takes [gz,gz+1] 3 (Bs:=B1) (ws:=w1) (by kernel_rfl) (fun _ h=>h) hL1 ?_
   refine p_val (.pointer (some ⟨gB qd,oB qd+l1.length*3,none⟩)) (S:=Instr.indexAt 24 (.slice qd qnt qcap3) (.int .i64 (l1.length:Int))) (by kernel_rfl) (Bs:=B1) (ws:=w1) (by kernel_rfl) (fun _ h=>h) (fun W _=>idx_sl (e:=58) qzs1 (by kernel_rfl) (by kernel_rfl) hin2 W) ?_
   refine p_val (.agg #[.string (str y.name),.slice ya y.locals.length ycap,.slice yb y.body.length ycap2]) (S:=Instr.loadAt 58 (.pointer (some ⟨gB qd,oB qd+l1.length*3+0,none⟩))) (by kernel_rfl) (Bs:=B1) (ws:=w1) (by kernel_rfl) (fun _ h=>h) (fun W hk=>load_slA (P:=Tryz.prog) (ty:=58) (m:=3) (cs:=[.string (str y.name),.slice ya y.locals.length ycap,.slice yb y.body.length ycap2]) qzs1 (by kernel_rfl) (by kernel_rfl) l1.length 0 rfl hcell2 hk) ?_
   refine p_alt (by kernel_rfl) ?_ ?_
   ·
    refine pR (Keep B1 w1) (fun _ h=>h) ?_
    refine rk ?_
    refine pR (Keep B1 w1) (fun _ h=>h) ?_
    refine rk ?_
    refine pR (Keep B1 w1) (fun _ h=>h) ?_
    refine rk ?_
    refine p_done (by kernel_rfl) ?_ (Keep B1 w1) (by kernel_rfl) (fun _ h=>h)
    refine rs [54] 60 0 ?_
    rcases Bool.eq_false_or_eq_true (bEqL x.name y.name) with hk3 | hk3
    rotate_left
    ·
     refine gS 52 (x := .bool (!(bEqL x.name y.name))) (.bool true) (by rw [hk3];rfl) ?_
     refine gS 53 (x := .bool (!(bEqL x.name y.name))) (.bool true) (by rw [hk3];rfl) ?_
     refine rs [] 60 4 ?_
     refine gR (.bool false) (fun W hk=>⟨?_,(hk01.trans (hk.mono hB01)).below⟩)
     rw [sameB_f]
     intro h
     have h:=congrArg Pg.threads h
     rw [hI1,hI2] at h
     have h:=(List.cons.inj (List.append_cancel_left h)).1
     rw [bEqL_eq] at hk3;simp_all
    refine gS 52 (x := .bool (!(bEqL x.name y.name))) (.bool false) (by rw [hk3];rfl) ?_
    refine gS 53 (x := .bool (!(bEqL x.name y.name))) (.bool false) (by rw [hk3];rfl) ?_
    refine rk ?_
    refine gX [.slice xa x.locals.length xcap,.slice ya y.locals.length ycap] (.bool (sameB x.locals y.locals)) (fun W hk=>sameVars_any x.locals y.locals _ _ _ _ _ _ _ _ W rfl rfl (by omega) ((xh1.keep hk).mono (fun k h=>Nat.lt_of_lt_of_le (hB1 k h) hk.size)) ((yh1.keep hk).mono (fun k h=>Nat.lt_of_lt_of_le (hB1 k h) hk.size)) xh2 yh2) ?_
    refine rs [62] 60 0 ?_
    rcases Bool.eq_false_or_eq_true (sameB x.locals y.locals) with hk4 | hk4
    rotate_left
    ·
     refine gS 59 (x := .bool (!(sameB x.locals y.locals))) (.bool true) (by rw [hk4];rfl) ?_
     refine gS 60 (x := .bool (!(sameB x.locals y.locals))) (.bool true) (by rw [hk4];rfl) ?_
     refine gS 61 (x := .bool (!(sameB x.locals y.locals))) (.bool true) (by rw [hk4];rfl) ?_
     refine rs [] 60 4 ?_
     refine gR (.bool false) (fun W hk=>⟨?_,(hk01.trans (hk.mono hB01)).below⟩)
     rw [sameB_f]
     intro h
     have h:=congrArg Pg.threads h
     rw [hI1,hI2] at h
     have h:=(List.cons.inj (List.append_cancel_left h)).1
     rw [sameB_t.2 (by rw [h])] at hk4;cases hk4
    refine gS 59 (x := .bool (!(sameB x.locals y.locals))) (.bool false) (by rw [hk4];rfl) ?_
    refine gS 60 (x := .bool (!(sameB x.locals y.locals))) (.bool false) (by rw [hk4];rfl) ?_
    refine gS 61 (x := .bool (!(sameB x.locals y.locals))) (.bool false) (by rw [hk4];rfl) ?_
    refine rk ?_
    refine gX [.slice xb x.body.length xcap2,.slice yb y.body.length ycap2] (.bool (sameB x.body y.body)) (fun W hk=>sameStmts_any _ x.body y.body _ _ _ _ _ _ _ _ W rfl rfl (Nat.lt_succ_self _) (by omega) ((xh3.keep hk).mono (fun k h=>Nat.lt_of_lt_of_le (hB1 k h) hk.size)) ((yh3.keep hk).mono (fun k h=>Nat.lt_of_lt_of_le (hB1 k h) hk.size)) (StsAt_ls.1 (xh4.keep hk (fun k h=>Nat.lt_of_lt_of_le (hB1 k h) hk.size))) (StsAt_ls.1 (yh4.keep hk (fun k h=>Nat.lt_of_lt_of_le (hB1 k h) hk.size)))) ?_
    refine rk ?_
    refine good_cond (b:=!(sameB x.body y.body)) (by kernel_rfl) (fun hss=>?_) (fun hss=>?_)
    ·
     refine rs [] 60 4 ?_
     refine gR (.bool false) (fun W hk=>⟨?_,(hk01.trans (hk.mono hB01)).below⟩)
     rw [sameB_f]
     intro h
     have h:=congrArg Pg.threads h
     rw [hI1,hI2] at h
     have h:=(List.cons.inj (List.append_cancel_left h)).1
     rw [sameB_t.2 (by rw [h])] at hss;cases hss
    ·
     have hxy:x=y:=by
      have h5:x.body=y.body:=sameB_t.1 (by simpa using hss)
      have h4:=sameB_t.1 hk4
      rw [bEqL_eq] at hk3
      have h3:x.name=y.name:=by simpa using hk3
      cases x;cases y;simp_all
     refine rs [] 60 2 ?_
     refine gS 5 (x := .int .i64 (wrapF .i64 (((l1.length:Nat):Int)+1))) (.int .i64 ((((l1++[x]).length:Nat):Int))) (by rw [wr64 (n:=((l1.length:Nat):Int)+1) (by omega) (by omega)];congr 1;simp) ?_
     exact gU _ [(2,.ptr gz 0),(3,.ptr (gz+1) 0),(5,.v (.int .i64 (((l1++[x]).length:Nat):Int)))] [(gz,some (.cells 26 false true true 3 (putL .leaf 0 [.v (.slice pa pns pcap),.v (.slice pb pnm pcap2),.v (.slice pd pnt pcap3)]))),(gz+1,some (.cells 26 false true true 3 (putL .leaf 0 [.v (.slice qa qns qcap),.v (.slice qb qnm qcap2),.v (.slice qd qnt qcap3)])))] (gz+2) hγ1 (ih (l1++[x],l3,m3) ⟨(by show p.threads=(l1++[_])++l3;rw [hI1];simp),(by show q.threads=(l1++[_])++m3;rw [hI2,← hxy];simp)⟩ (by show l3.length<(_::l3).length;simp))
   ·
    refine pR (Keep B1 w1) (fun _ h=>h) ?_
    refine rk ?_
    refine pR (Keep B1 w1) (fun _ h=>h) ?_
    refine rk ?_
    refine pR (Keep B1 w1) (fun _ h=>h) ?_
    refine rk ?_
    refine p_done (by kernel_rfl) ?_ (Keep B1 w1) (by kernel_rfl) (fun _ h=>h)
    refine rs [54] 60 0 ?_
    rcases Bool.eq_false_or_eq_true (bEqL x.name y.name) with hk3 | hk3
    rotate_left
    ·
     refine gS 52 (x := .bool (!(bEqL x.name y.name))) (.bool true) (by rw [hk3];rfl) ?_
     refine gS 53 (x := .bool (!(bEqL x.name y.name))) (.bool true) (by rw [hk3];rfl) ?_
     refine rs [] 60 4 ?_
     refine gR (.bool false) (fun W hk=>⟨?_,(hk01.trans (hk.mono hB01)).below⟩)
     rw [sameB_f]
     intro h
     have h:=congrArg Pg.threads h
     rw [hI1,hI2] at h
     have h:=(List.cons.inj (List.append_cancel_left h)).1
     rw [bEqL_eq] at hk3;simp_all
    refine gS 52 (x := .bool (!(bEqL x.name y.name))) (.bool false) (by rw [hk3];rfl) ?_
    refine gS 53 (x := .bool (!(bEqL x.name y.name))) (.bool false) (by rw [hk3];rfl) ?_
    refine rk ?_
    refine gX [.slice xa x.locals.length xcap,.slice ya y.locals.length ycap] (.bool (sameB x.locals y.locals)) (fun W hk=>sameVars_any x.locals y.locals _ _ _ _ _ _ _ _ W rfl rfl (by omega) ((xh1.keep hk).mono (fun k h=>Nat.lt_of_lt_of_le (hB1 k h) hk.size)) ((yh1.keep hk).mono (fun k h=>Nat.lt_of_lt_of_le (hB1 k h) hk.size)) xh2 yh2) ?_
    refine rs [62] 60 0 ?_
    rcases Bool.eq_false_or_eq_true (sameB x.locals y.locals) with hk4 | hk4
    rotate_left
    ·
     refine gS 59 (x := .bool (!(sameB x.locals y.locals))) (.bool true) (by rw [hk4];rfl) ?_
     refine gS 60 (x := .bool (!(sameB x.locals y.locals))) (.bool true) (by rw [hk4];rfl) ?_
     refine gS 61 (x := .bool (!(sameB x.locals y.locals))) (.bool true) (by rw [hk4];rfl) ?_
     refine rs [] 60 4 ?_
     refine gR (.bool false) (fun W hk=>⟨?_,(hk01.trans (hk.mono hB01)).below⟩)
     rw [sameB_f]
     intro h
     have h:=congrArg Pg.threads h
     rw [hI1,hI2] at h
     have h:=(List.cons.inj (List.append_cancel_left h)).1
     rw [sameB_t.2 (by rw [h])] at hk4;cases hk4
    refine gS 59 (x := .bool (!(sameB x.locals y.locals))) (.bool false) (by rw [hk4];rfl) ?_
    refine gS 60 (x := .bool (!(sameB x.locals y.locals))) (.bool false) (by rw [hk4];rfl) ?_
    refine gS 61 (x := .bool (!(sameB x.locals y.locals))) (.bool false) (by rw [hk4];rfl) ?_
    refine rk ?_
    refine gX [.slice xb x.body.length xcap2,.slice yb y.body.length ycap2] (.bool (sameB x.body y.body)) (fun W hk=>sameStmts_any _ x.body y.body _ _ _ _ _ _ _ _ W rfl rfl (Nat.lt_succ_self _) (by omega) ((xh3.keep hk).mono (fun k h=>Nat.lt_of_lt_of_le (hB1 k h) hk.size)) ((yh3.keep hk).mono (fun k h=>Nat.lt_of_lt_of_le (hB1 k h) hk.size)) (StsAt_ls.1 (xh4.keep hk (fun k h=>Nat.lt_of_lt_of_le (hB1 k h) hk.size))) (StsAt_ls.1 (yh4.keep hk (fun k h=>Nat.lt_of_lt_of_le (hB1 k h) hk.size)))) ?_
    refine rk ?_
    refine good_cond (b:=!(sameB x.body y.body)) (by kernel_rfl) (fun hss=>?_) (fun hss=>?_)
    ·
     refine rs [] 60 4 ?_
     refine gR (.bool false) (fun W hk=>⟨?_,(hk01.trans (hk.mono hB01)).below⟩)
     rw [sameB_f]
     intro h
     have h:=congrArg Pg.threads h
     rw [hI1,hI2] at h
     have h:=(List.cons.inj (List.append_cancel_left h)).1
     rw [sameB_t.2 (by rw [h])] at hss;cases hss
    ·
     have hxy:x=y:=by
      have h5:x.body=y.body:=sameB_t.1 (by simpa using hss)
      have h4:=sameB_t.1 hk4
      rw [bEqL_eq] at hk3
      have h3:x.name=y.name:=by simpa using hk3
      cases x;cases y;simp_all
     refine rs [] 60 2 ?_
     refine gS 5 (x := .int .i64 (wrapF .i64 (((l1.length:Nat):Int)+1))) (.int .i64 ((((l1++[x]).length:Nat):Int))) (by rw [wr64 (n:=((l1.length:Nat):Int)+1) (by omega) (by omega)];congr 1;simp) ?_
     exact gU _ [(2,.ptr gz 0),(3,.ptr (gz+1) 0),(5,.v (.int .i64 (((l1++[x]).length:Nat):Int)))] [(gz,some (.cells 26 false true true 3 (putL .leaf 0 [.v (.slice pa pns pcap),.v (.slice pb pnm pcap2),.v (.slice pd pnt pcap3)]))),(gz+1,some (.cells 26 false true true 3 (putL .leaf 0 [.v (.slice qa qns qcap),.v (.slice qb qnm qcap2),.v (.slice qd qnt qcap3)])))] (gz+2) hγ1 (ih (l1++[x],l3,m3) ⟨(by show p.threads=(l1++[_])++l3;rw [hI1];simp),(by show q.threads=(l1++[_])++m3;rw [hI2,← hxy];simp)⟩ (by show l3.length<(_::l3).length;simp))
end Go.Proofs.YtiacalnkmnckjaaGreatDoor
end
section
namespace Go.Proofs.YtiacalnkmnckjaaGreatDoor
open Go.RowKit Go.As
open Go.Sy in
set_option maxRecDepth 100000 in
theorem copyTexts_any (a:Option Addr) (n cap:Nat) (xs:List Value) (w:World) (hbd:n≤1099511627776) (hsl:SlAt (·<w.heap.size) w a n 1 xs):
  Calls Tryz.prog 49 #[.slice a n cap] w fun r w'=>∃ v,r = .returned v∧(∃ a' cap',v = .slice a' n cap'∧SlAt (NewIn w w') w' a' n 1 xs)∧Below w.heap.size w w':=by
 refine Sy.enter (vs:=[.slice a n cap]) sy_fine Tryz.func49 rfl (fun γ=>norms_LR _) rfl (fun γ0 hγ0=>?_)
 refine rs [5] 60 0 ?_
 refine good_fix 3 gz 1 (by kernel_rfl) (by kernel_rfl) (by kernel_rfl) (fun k=>?_)
 refine good_appM (.slice (some ⟨k,0,none⟩) 0 0) (.slice a n cap) [23,23] (by kernel_rfl) (fun W hk=>app_none (e:=9) (sz:=1) (bytes:=16) (by kernel_rfl) (by kernel_rfl) (by kernel_rfl) hsl (by omega) (by unfold maxLen;omega) W hk) ?_
 rintro w1 r w2 B2 hk1 ⟨a2,cap2,rfl,hsl2⟩ hbl hk2 hB02 hBn hB2
 refine rk ?_
 refine gR (.slice a2 n cap2) (fun W hk=>⟨_,rfl,⟨a2,cap2,rfl,?_⟩,(hk2.trans (hk.mono hB02)).below⟩)
 exact ((hsl2.mono fun k h=>hBn k h.1 h.2).keep hk |> fun _=>((hsl2.keep (hk.mono fun k h=>hBn k h.1 h.2)).mono fun k h=>⟨Nat.le_trans hk1.size h.1,Nat.lt_of_lt_of_le h.2 hk.size⟩))
structure CI (α:Type) where
 l1:List α
 l2:List α
 xs:List Value
 X:Sy.AV
 ob:Option Sy.Blk
def CInv {α:Type} (At:(Nat→Prop)→World→α→List Value→Prop) (e sz:Nat) (w:World) (L:List α) (b:Nat) (i:CI α) (B:Nat→Prop) (w1:World):Prop:=
 L=i.l1++i.l2∧Sy.Keep (·<w.heap.size) w w1∧(∀ k,k<w.heap.size→B k)∧(∀ k,B k→k<w1.heap.size)∧LsAt (At (fun k=>B k∧w.heap.size≤k) w1) i.l1 i.xs∧Sy.RowAt e sz b i.l1.length i.xs i.X i.ob
def StsPr (L:List St) (w:World) (v:Value) (w':World):Prop:=∃ a' cap' xs',v = .slice a' L.length cap'∧Sy.SlAt (NewIn w w') w' a' L.length 9 xs'∧StsAt (NewIn w w') w' L xs'
open Go.Sy in
set_option maxRecDepth 100000 in
theorem copyStmts_any:∀ (N:Nat) (L:List St) (a:Option Addr) (n cap:Nat) (xs:List Value) (w:World),n=L.length→swts L<N→swts L≤1000000000000→SlAt (·<w.heap.size) w a n 9 xs→LsAt (StAt (·<w.heap.size) w) L xs→
  Calls Tryz.prog 50 #[.slice a n cap] w fun r w'=>∃ v,r = .returned v∧StsPr L w v w'∧Below w.heap.size w w':=by
 intro N
 induction N with
 | zero=>intro L a n cap xs w hn h;omega
 | succ N ihN=>
   intro L a n cap xs w hn hN hbd hsl hks
   have hnl:=swts_len L
   refine Sy.enter (vs:=[.slice a n cap]) sy_fine Tryz.func50 rfl (fun γ=>norms_LR _) rfl (fun γ0 hγ0=>?_)
   refine rk ?_
   refine good_toLp ?_
   refine good_loopB (fun i:CI St=>i.l2.length) (CInv StAt 56 9 w L gz) (fun i=>⟨mkT [(0,.v (.slice a n cap)),(3,i.X),(4,.v (.int .i64 (i.l1.length:Int)))],mkH [(gz,i.ob)],gz+1,[]⟩)
    ⟨[],L,[],.v (.slice none 0 0),none⟩ ⟨rfl,Keep.refl _ _,fun k h=>h,fun k h=>h,rfl,RowAt.nil _ _ _⟩ (by kernel_rfl)
    (fun h=>good_sub _ [(0,.v (.slice a n cap)),(3,.v (.slice none 0 0)),(4,.v (.int .i64 (([]:List St).length:Int)))] [(gz,none)] (gz+1) rfl (by kernel_rfl) (by kernel_rfl) (by kernel_rfl) (by kernel_rfl) (by kernel_rfl) (fun b hb=>hγ0 b (Nat.le_trans (Nat.le_succ _) hb)) (by kernel_rfl) h) ?_
   rintro ⟨l1,l2,xk,X,ob⟩ B1 w1 ⟨hI,hk1,hB0,hB1,hxk,hrow⟩ ih
   simp only at hI hxk hrow
   have hn2:n=l1.length+l2.length:=by rw [hn,hI,List.length_append]
   have hw1:swts L=swts l1+swts l2:=by rw [hI,swts_app]
   have hsl1:SlAt B1 w1 a n 9 xs:=(hsl.keep hk1).mono hB0
   have hXlt:avLt (gz+1) X=true:=hrow.lt (by omega)
   refine rk ?_
   cases l2 with
   | nil=>
     have hn3:n=l1.length:=by rw [hn2];simp
     refine gK false (b:=intLt (l1.length:Int) (n:Int)) (lt_f (by omega)) ?_
     have hfin:∀ (γ:Gm) (W:World) (x:Value) (h:Hp) (cc:Nat),VR γ X x→HR B1 Tryz.prog.globals.size γ h cc W→h.get gz=ob→Keep B1 w1 W→(∃ v',Ending.returned x = .returned v'∧StsPr L w v' W∧Below w.heap.size w W):=by
      intro γ W x h cc hx hH hb hkW
      obtain ⟨hown,_⟩:=row_own (base:=w.heap.size) hrow hb hH hx (fun k hk=>Nat.le_of_not_lt (fun h=>hk (hB0 k h)))
      obtain ⟨a',cap',rfl,_,hsl'⟩:=SlAt.of_own (F:=NewIn w W) hown (fun k h1 h2=>⟨h1,h2⟩)
      refine ⟨_,rfl,?_,(hk1.trans (hkW.mono hB0)).below⟩
      have hkl:l1=L:=by rw [hI];simp
      rw [hkl] at hsl' hxk
      refine ⟨a',cap',xk,by rw [hkl],hsl',?_⟩
      exact StsAt_ls.2 (hxk.imp fun _ _ h=>h.keep (hkW.mono fun k hk=>hk.1) (fun k hk=>⟨hk.2,Nat.lt_of_lt_of_le (hB1 k hk.1) hkW.size⟩))
     rcases hrow.2 with ⟨hX,hob,h0⟩ | ⟨hX,hob⟩
     ·
      subst hX hob
      refine rk ?_
      exact good_end (av := .v (.slice none 0 0)) (by kernel_rfl) (fun γ W v _ hv hH hkW=>hfin γ W v _ _ hv hH (by kernel_rfl) hkW)
     ·
      subst hX hob
      refine rk ?_
      exact good_end (av := .slg gz 0 l1.length 9) (by kernel_rfl) (fun γ W v _ hv hH hkW=>hfin γ W v _ _ hv hH (by kernel_rfl) hkW)
   | cons s l3=>
     have hin:l1.length<n:=by rw [hn2,List.length_cons];omega
     have hks2:=StsAt_ls.2 hks
     rw [hI] at hks2
     obtain ⟨c,hc,hcell⟩:=hks2.at_
     have hc1:StAt B1 w1 s c:=hc.keep hk1 hB0
     simp only [swts] at hw1
     obtain ⟨ukind,usn,⟨uop,uty,ubits,uen,uek⟩,ubody,uels⟩:=s
     simp only [StAt] at hc
     obtain ⟨ucs,uba,ubc,ubx,ula,ulc,ulx,rfl,uhe,uhbs,uhbt,uhls,uhlt⟩:=hc
     have uhe0:=uhe
     simp only [ExAt] at uhe0
     obtain ⟨uea,uec,uex,rfl,_⟩:=uhe0
     have hcell:∀ j v,([.int .i64 ukind,.string (str usn),.int .u8 uop,.int .u8 uty,.int .u64 ubits,.string (str uen),.slice uea uek.length uec,.slice uba ubody.length ubc,.slice ula uels.length ulc]:List Value)[j]?=some v→xs[l1.length*9+j]?=some v:=hcell
     have umid:∀ j v,([.int .u8 uop,.int .u8 uty,.int .u64 ubits,.string (str uen),.slice uea uek.length uec]:List Value)[j]?=some v→xs[l1.length*9+2+j]?=some v:=cell_part hcell 2 (mid_get [_,_] [.int .u8 uop,.int .u8 uty,.int .u64 ubits,.string (str uen),.slice uea uek.length uec] [_,_])
     simp only [swt] at hw1
     refine gK true (b:=intLt (l1.length:Int) (n:Int)) (lt_t (by omega)) ?_
     refine rk ?_
     refine gV (.pointer (some ⟨gB a,oB a+l1.length*9,none⟩)) (S:=Instr.indexAt 54 (.slice a n cap) (.int .i64 (l1.length:Int))) (fun W _=>idx_sl (e:=56) hsl1 (by kernel_rfl) (by kernel_rfl) hin W) ?_
     refine rk ?_
     refine gV (.agg #[.int .i64 ukind,.string (str usn),.int .u8 uop,.int .u8 uty,.int .u64 ubits,.string (str uen),.slice uea uek.length uec,.slice uba ubody.length ubc,.slice ula uels.length ulc]) (S:=Instr.loadAt 56 (.pointer (some ⟨gB a,oB a+l1.length*9+0,none⟩))) (fun W hk=>load_slA (P:=Tryz.prog) (ty:=56) (m:=9) (cs:=[.int .i64 ukind,.string (str usn),.int .u8 uop,.int .u8 uty,.int .u64 ubits,.string (str uen),.slice uea uek.length uec,.slice uba ubody.length ubc,.slice ula uels.length ulc]) hsl1 (by kernel_rfl) (by kernel_rfl) l1.length 0 rfl hcell hk) ?_
     refine rk ?_
     refine gM [.agg #[.int .u8 uop,.int .u8 uty,.int .u64 ubits,.string (str uen),.slice uea uek.length uec]] (fun W hk=>copyExpr_any _ (Ex.mk uop uty ubits uen uek) [.int .u8 uop,.int .u8 uty,.int .u64 ubits,.string (str uen),.slice uea uek.length uec] W (Nat.le_refl _) (by omega) (uhe.keep (hk1.trans (hk.mono hB0)) (fun k h=>Nat.lt_of_lt_of_le h (hk1.trans (hk.mono hB0)).size))) ?_
     rintro wa r w2 B2 hka ⟨ds,rfl,hds⟩ hba hk12 hB12 hBn2 hB2
     have hds0:=hds
     simp only [ExAt] at hds0
     obtain ⟨ea,ecap,exs,rfl,_⟩:=hds0
     have hk02:Keep (·<w.heap.size) w w2:=hk1.trans (hk12.mono hB0)
     refine rk ?_
     refine gM [.slice uba ubody.length ubc] (fun W hk=>ihN ubody _ _ _ _ W rfl (by omega) (by omega) ((uhbs.keep (hk02.trans (hk.mono fun k h=>hB12 k (hB0 k h)))).mono (fun k h=>Nat.lt_of_lt_of_le h (hk02.trans (hk.mono fun k h=>hB12 k (hB0 k h))).size)) (StsAt_ls.1 (uhbt.keep (hk02.trans (hk.mono fun k h=>hB12 k (hB0 k h))) (fun k h=>Nat.lt_of_lt_of_le h (hk02.trans (hk.mono fun k h=>hB12 k (hB0 k h))).size)))) ?_
     rintro wbody r w3 B3 hkbody ⟨pa,pac,pax,rfl,pas,pat⟩ hbbody hk23 hB23 hBn3 hB3
     have hk03:Keep (·<w.heap.size) w w3:=hk02.trans (hk23.mono fun k h=>hB12 k (hB0 k h))
     refine rk ?_
     refine gM [.slice ula uels.length ulc] (fun W hk=>ihN uels _ _ _ _ W rfl (by omega) (by omega) ((uhls.keep (hk03.trans (hk.mono fun k h=>hB23 k (hB12 k (hB0 k h))))).mono (fun k h=>Nat.lt_of_lt_of_le h (hk03.trans (hk.mono fun k h=>hB23 k (hB12 k (hB0 k h)))).size)) (StsAt_ls.1 (uhlt.keep (hk03.trans (hk.mono fun k h=>hB23 k (hB12 k (hB0 k h)))) (fun k h=>Nat.lt_of_lt_of_le h (hk03.trans (hk.mono fun k h=>hB23 k (hB12 k (hB0 k h)))).size)))) ?_
     rintro wels r w4 B4 hkels ⟨qa,qac,qax,rfl,qas,qat⟩ hbels hk34 hB34 hBn4 hB4
     have hk04:Keep (·<w.heap.size) w w4:=hk03.trans (hk34.mono fun k h=>hB23 k (hB12 k (hB0 k h)))
     refine rs [31] 60 0 ?_
     refine good_app (t:=54) (e:=56) (.slg (gz+2) 0 1 9) 9 136 gz l1.length 0 xk X ob [.int .i64 ukind,.string (str usn),.int .u8 uop,.int .u8 uty,.int .u64 ubits,.string (str uen),.slice ea uek.length ecap,.slice pa ubody.length pac,.slice qa uels.length qac] [3,28] (by kernel_rfl) (by kernel_rfl) (by kernel_rfl) (by kernel_rfl) hrow (by kernel_rfl) (by kernel_rfl) (by kernel_rfl)
      (by unfold maxLen;omega) (by omega) (hγ0 gz (Nat.le_refl _)) (by kernel_rfl) (by kernel_rfl) (by kernel_rfl) (by kernel_rfl) (by kernel_rfl) (fun X' ob' hrow'=>?_)
     rcases hrow'.2 with ⟨_,_,h0⟩ | ⟨rfl,rfl⟩
     · omega
     refine rk ?_
     refine gS 4 (x := .int .i64 (wrapF .i64 (((l1.length:Nat):Int)+1))) (.int .i64 ((((l1++[(St.mk ukind usn (Ex.mk uop uty ubits uen uek) ubody uels)]).length:Nat):Int))) (by rw [wr64 (n:=((l1.length:Nat):Int)+1) (by omega) (by omega)];congr 1;simp) ?_
     have hB14:∀ k,B1 k→B4 k:=fun k h=>hB34 k (hB23 k (hB12 k h))
     have hk14:Keep B1 w1 w4:=hk12.trans ((hk23.trans (hk34.mono hB23)).mono hB12)
     have hsz1:=hk1.size
     have hsza:=hka.size
     have hszb:=hkbody.size
     have hszc:=hkels.size
     have hs12:=hk12.size
     have hs23:=hk23.size
     have hs34:=hk34.size
     have hst:StAt (fun k=>B4 k∧w.heap.size≤k) w4 (St.mk ukind usn (Ex.mk uop uty ubits uen uek) ubody uels) [.int .i64 ukind,.string (str usn),.int .u8 uop,.int .u8 uty,.int .u64 ubits,.string (str uen),.slice ea uek.length ecap,.slice pa ubody.length pac,.slice qa uels.length qac]:=by
      simp only [StAt]
      refine ⟨[.int .u8 uop,.int .u8 uty,.int .u64 ubits,.string (str uen),.slice ea uek.length ecap],pa,pac,pax,qa,qac,qax,rfl,hds.keep ((hk23.trans (hk34.mono hB23)).mono fun k h=>hBn2 k h.1 h.2) (fun k h=>⟨hB34 k (hB23 k (hBn2 k h.1 h.2)),by have:=h.1;omega⟩),?_,?_,?_,?_⟩
      · exact ((pas.keep (hk34.mono fun k h=>hBn3 k h.1 h.2)).mono fun k h=>⟨hB34 k (hBn3 k h.1 h.2),by have:=h.1;omega⟩)
      · exact pat.keep (hk34.mono fun k h=>hBn3 k h.1 h.2) fun k h=>⟨hB34 k (hBn3 k h.1 h.2),by have:=h.1;omega⟩
      · exact qas.mono fun k h=>⟨hBn4 k h.1 h.2,by have:=h.1;omega⟩
      · exact qat.keep (Keep.refl _ _) fun k h=>⟨hBn4 k h.1 h.2,by have:=h.1;omega⟩
     have hI4:CInv StAt 56 9 w L gz ⟨l1++[(St.mk ukind usn (Ex.mk uop uty ubits uen uek) ubody uels)],l3,xk++[.int .i64 ukind,.string (str usn),.int .u8 uop,.int .u8 uty,.int .u64 ubits,.string (str uen),.slice ea uek.length ecap,.slice pa ubody.length pac,.slice qa uels.length qac],.slg gz 0 (l1.length+(0+1)) 9,some (.row 56 (xk++[.int .i64 ukind,.string (str usn),.int .u8 uop,.int .u8 uty,.int .u64 ubits,.string (str uen),.slice ea uek.length ecap,.slice pa ubody.length pac,.slice qa uels.length qac]))⟩ B4 w4:=by
      refine ⟨by show L=(l1++[_])++l3;rw [hI];simp,hk04,fun k hk=>hB14 k (hB0 k hk),hB4,?_,?_⟩
      · exact LsAt.snoc (hxk.imp fun _ _ h=>h.keep (hk14.mono fun k hk=>hk.1) (fun k hk=>⟨hB14 k hk.1,hk.2⟩)) hst
      · show RowAt _ 9 gz (l1++[_]).length _ _ _
        rw [List.length_append]
        exact hrow'
     exact gU _ [(0,.v (.slice a n cap)),(3,.slg gz 0 (l1.length+(0+1)) 9),(4,.v (.int .i64 ((l1++[(St.mk ukind usn (Ex.mk uop uty ubits uen uek) ubody uels)]).length:Int)))] [(gz,some (.row 56 (xk++[.int .i64 ukind,.string (str usn),.int .u8 uop,.int .u8 uty,.int .u64 ubits,.string (str uen),.slice ea uek.length ecap,.slice pa ubody.length pac,.slice qa uels.length qac])))] (gz+1) (fun b hb=>hγ0 b (Nat.le_trans (Nat.le_succ _) hb)) (ih _ B4 w4 hI4 (by show l3.length<(_::l3).length;simp))
end Go.Proofs.YtiacalnkmnckjaaGreatDoor
end
