/- Texts of this proof, one behind the other. Conditions: those in each theorem. -/
import Derived.Test.YtijopiphkgddhaaGreatDoorPagQ1
import Derived.Test.YtijopiphkgddhaaGreatDoorPagQ10
import Derived.Test.YtijopiphkgddhaaGreatDoorPagQ9
set_option linter.unusedVariables false
set_option linter.unusedSimpArgs false
namespace Go.Proofs.YtijopiphkgddhaaGreatDoor
open Go.RowKit Go.As
section
theorem pY {F B1:Nat→Prop} {w w1 W2:World} {b n0 cap:Nat} {a:Option Addr} {r:Rd} {t0:Tok} {ts:List Tok} {xs2:List Value} (hsl:Sy.SlAt F w a (n0+1) 5 ([.int .i64 t0.kind,.string (str t0.text),.int .i64 t0.pos,.int .u8 t0.ty,.int .u64 t0.bits]++xs2))
  (hcl1:w1.heap[b]?=some (.cells (dG (if cap=1 then a else a.map (·.add 5)) n0 (cap - 1) r.adv).toArray 61 (0,0))) (hk01:Sy.Keep (fun k=>k<w.heap.size∧¬ k=b) w w1) (hk2:Sy.Keep B1 w1 W2) (hB01:∀ k,k<w.heap.size→B1 k) (hblt:b<w.heap.size)
  (hF:∀ k,F k→k<w.heap.size) (hFb:¬ F b) (ht:r.toks=t0::ts) (hn:n0+1=(t0::ts).length) (hncap:n0+1≤cap) (hnb:n0+1≤1000000000) (hls2:LsAt TokAt ts xs2) (htb:∀ t∈r.toks,t.text.length≤16384):RdAt F W2 b r.adv:=by
 have hsl1:=(rY hsl rfl hncap).keep ((hk01.mono fun k h=>⟨hF k h,fun e=>hFb (e ▸ h)⟩).trans (hk2.mono fun k h=>hB01 k (hF k h)))
 have hb2:W2.heap[b]?=_:=(hk2.block b (hB01 b hblt)).trans hcl1
 have hn':n0+1=ts.length+1:=hn
 exact ⟨_,n0,cap - 1,xs2,hb2,by show n0=r.toks.tail.length;rw [ht];show n0=ts.length;omega,by omega,by omega,hsl1,by show LsAt TokAt r.toks.tail xs2;rw [ht];exact hls2,hFb,fun t h=>htb t (List.mem_of_mem_tail h)⟩
def aUd:Option ((Int×Int)×List Tok)→Value
 | some (v,_) => .tuple #[.agg #[.int .u8 v.1,.int .u64 v.2],.bool true]
 | none => .tuple #[.agg #[.int .u8 0,.int .u64 0],.bool false]
def aSu (ts:List Tok):Option ((Int×Int)×List Tok)→List Tok
 | some (_,us)=>us
 | none=>ts
open Go.Sy in
set_option maxRecDepth 100000 in
theorem aBx (b:Nat) (r:Rd) {F:Nat→Prop} (w:World) (hF:∀ k,F k→k<w.heap.size) (h:RdAt F w b r):Calls Tryz.prog 93 #[nP b] w (Reads F b (Sm r) (some ((),aSu r.toks (dN r.toks))) (fun _ _ v _=>v=aUd (dN r.toks)) w):=by
 have hF0:=hF
 have ri0:=RI.init hF h
 obtain ⟨a,n,cap,xs,hb,hn,hncap,hnb,hsl,hls,hFb,htb⟩:=h
 have hblt:b<w.heap.size:=(Array.getElem?_eq_some_iff.1 hb).1
 have hat:=mH (F:=(·<w.heap.size)) hb hblt rfl
 refine eN [nP b] Tryz.func93 (fun γ0 hγ0=>?_)
 refine rk ?_
 refine gV (.slice a n cap) (S:=Instr.loadAt 36 (.pointer (some ⟨b,0+0,none⟩))) (fun W hk=>ldB hat (by kernel_rfl) 0 rfl hk) (rk ?_)
 rcases ht:r.toks with _ | ⟨t0,ts⟩
 ·
  have hn0:n=0:=by rw [hn,ht];rfl
  refine kz (n:Int) 0 (by omega) (rs [] 60 2 ?_)
  exact gR (.tuple #[.agg #[n8 0,n6 0],.bool false]) (fun W hk => .ret (r':=r) (by rw [ht];rfl) (.rfl) (rfl) (ri0.to hk) (ri0.all hk))
 rw [ht] at hls hn
 obtain ⟨c,xs2,rfl,hc,hls2⟩:=hls
 obtain ⟨n0,rfl⟩:∃ n0,n=n0+1:=⟨ts.length,by rw [hn];rfl⟩
 have hcc:c=_:=hc
 subst hcc
 have hslB:=hsl.mono hF
 refine kw ((n0+1:Nat):Int) 0 (by omega) (rk ?_)
 refine gV (.slice a (n0+1) cap) (S:=Instr.loadAt 36 (.pointer (some ⟨b,0+0,none⟩))) (fun W hk=>ldB hat (by kernel_rfl) 0 rfl hk) (rk ?_)
 refine gI 36 44 cap 0 hslB (Nat.succ_pos n0) (rk ?_)
 refine gD 44 5 [nI t0.kind,nT t0.text,nI t0.pos,n8 t0.ty,n6 t0.bits] 0 0 hslB rfl (fun j v hv=>by simp only [Nat.zero_mul,bH];rw [bG (List.getElem?_eq_some_iff.1 hv).1];exact hv) ?_
 refine rs [5] 60 0 ?_
 refine rk ?_
 by_cases h2:t0.kind=2
 ·
  refine kz t0.kind 2 h2 (rk ?_)
  refine kz t0.kind 2 h2 (rk ?_)
  refine gV (.slice a (n0+1) cap) (S:=Instr.loadAt 36 (.pointer (some ⟨b,0+0,none⟩))) (fun W hk=>ldB hat (by kernel_rfl) 0 rfl hk) (rs [54] 60 0 ?_)
  refine gV (.slice (if cap=1 then a else a.map (·.add 5)) n0 (cap - 1)) (S:=Instr.sliceAt 36 (.slice a (n0+1) cap) (some (nI 1)) none none) (fun W _=>jM W) (rk ?_)
  refine eU 36 (.pointer (some ⟨b,0+0,none⟩)) (.slice (if cap=1 then a else a.map (·.add 5)) n0 (cap - 1)) (fun k=>k=b) (Pr:=fun _ W'=>W'.heap[b]?=some (.cells (dG (if cap=1 then a else a.map (·.add 5)) n0 (cap - 1) r.adv).toArray 61 (0,0))) (by kernel_rfl) (by kernel_rfl) (fun k e=>e ▸ hblt) (fun W hk=>sM (by rw [hk.block b hblt];exact hb) (by kernel_rfl) 0 (by simp [dG]) rfl rfl) ?_
  intro W w1 B1 hk1 hcl1 _ hk01 hB01 hB1
  refine rs [] 60 2 ?_
  exact gR (.tuple #[.agg #[n8 t0.ty,n6 t0.bits],.bool true]) (fun W2 hk2=>by
   have hl:dN (t0::ts)=some ((t0.ty,t0.bits),ts):=by simp only [dN];rw [jZ,if_pos (.inl h2)];rfl
   exact .ret (r':=r.adv) (by rw [hl];unfold Rd.adv;rw [ht];rfl) .rfl (by rw [hl];rfl) (pY hsl hcl1 hk01 hk2 hB01 hblt hF0 hFb ht hn hncap hnb hls2 htb) (hk01.trans (hk2.mono fun k h=>hB01 k h.1)))
 refine kw t0.kind 2 h2 (rk ?_)
 by_cases h3:t0.kind=3
 ·
  refine kz t0.kind 3 h3 (rk ?_)
  refine gV (.slice a (n0+1) cap) (S:=Instr.loadAt 36 (.pointer (some ⟨b,0+0,none⟩))) (fun W hk=>ldB hat (by kernel_rfl) 0 rfl hk) (rs [54] 60 0 ?_)
  refine gV (.slice (if cap=1 then a else a.map (·.add 5)) n0 (cap - 1)) (S:=Instr.sliceAt 36 (.slice a (n0+1) cap) (some (nI 1)) none none) (fun W _=>jM W) (rk ?_)
  refine eU 36 (.pointer (some ⟨b,0+0,none⟩)) (.slice (if cap=1 then a else a.map (·.add 5)) n0 (cap - 1)) (fun k=>k=b) (Pr:=fun _ W'=>W'.heap[b]?=some (.cells (dG (if cap=1 then a else a.map (·.add 5)) n0 (cap - 1) r.adv).toArray 61 (0,0))) (by kernel_rfl) (by kernel_rfl) (fun k e=>e ▸ hblt) (fun W hk=>sM (by rw [hk.block b hblt];exact hb) (by kernel_rfl) 0 (by simp [dG]) rfl rfl) ?_
  intro W w1 B1 hk1 hcl1 _ hk01 hB01 hB1
  refine rs [] 60 2 ?_
  exact gR (.tuple #[.agg #[n8 t0.ty,n6 t0.bits],.bool true]) (fun W2 hk2=>by
   have hl:dN (t0::ts)=some ((t0.ty,t0.bits),ts):=by simp only [dN];rw [jZ,if_pos (.inr h3)];rfl
   exact .ret (r':=r.adv) (by rw [hl];unfold Rd.adv;rw [ht];rfl) .rfl (by rw [hl];rfl) (pY hsl hcl1 hk01 hk2 hB01 hblt hF0 hFb ht hn hncap hnb hls2 htb) (hk01.trans (hk2.mono fun k h=>hB01 k h.1)))
 refine kw t0.kind 3 h3 (rk ?_)
 by_cases h_nan:t0.text=[110,97,110]
 ·
  refine gK true (b:=bEqL t0.text [110,97,110]) (by rw [bEqL_eq];exact beq_iff_eq.2 h_nan) (rk ?_)
  refine gV (.slice a (n0+1) cap) (S:=Instr.loadAt 36 (.pointer (some ⟨b,0+0,none⟩))) (fun W hk=>ldB hat (by kernel_rfl) 0 rfl hk) (rs [54] 60 0 ?_)
  refine gV (.slice (if cap=1 then a else a.map (·.add 5)) n0 (cap - 1)) (S:=Instr.sliceAt 36 (.slice a (n0+1) cap) (some (nI 1)) none none) (fun W _=>jM W) (rk ?_)
  refine eU 36 (.pointer (some ⟨b,0+0,none⟩)) (.slice (if cap=1 then a else a.map (·.add 5)) n0 (cap - 1)) (fun k=>k=b) (Pr:=fun _ W'=>W'.heap[b]?=some (.cells (dG (if cap=1 then a else a.map (·.add 5)) n0 (cap - 1) r.adv).toArray 61 (0,0))) (by kernel_rfl) (by kernel_rfl) (fun k e=>e ▸ hblt) (fun W hk=>sM (by rw [hk.block b hblt];exact hb) (by kernel_rfl) 0 (by simp [dG]) rfl rfl) ?_
  intro W w1 B1 hk1 hcl1 _ hk01 hB01 hB1
  refine rs [] 60 2 ?_
  exact gR (.tuple #[.agg #[n8 3,n6 9221120237041090560],.bool true]) (fun W2 hk2=>by
   have hl:dN (t0::ts)=some ((3,9221120237041090560),ts):=by simp only [dN];rw [jZ,if_neg (by omega),if_pos h_nan];rfl
   exact .ret (r':=r.adv) (by rw [hl];unfold Rd.adv;rw [ht];rfl) .rfl (by rw [hl];rfl) (pY hsl hcl1 hk01 hk2 hB01 hblt hF0 hFb ht hn hncap hnb hls2 htb) (hk01.trans (hk2.mono fun k h=>hB01 k h.1)))
 refine gK false (b:=bEqL t0.text [110,97,110]) (by rw [bEqL_eq];exact beq_eq_false_iff_ne.2 h_nan) (rk ?_)
 by_cases h_inf:t0.text=[105,110,102]
 ·
  refine gK true (b:=bEqL t0.text [105,110,102]) (by rw [bEqL_eq];exact beq_iff_eq.2 h_inf) (rk ?_)
  refine gV (.slice a (n0+1) cap) (S:=Instr.loadAt 36 (.pointer (some ⟨b,0+0,none⟩))) (fun W hk=>ldB hat (by kernel_rfl) 0 rfl hk) (rs [54] 60 0 ?_)
  refine gV (.slice (if cap=1 then a else a.map (·.add 5)) n0 (cap - 1)) (S:=Instr.sliceAt 36 (.slice a (n0+1) cap) (some (nI 1)) none none) (fun W _=>jM W) (rk ?_)
  refine eU 36 (.pointer (some ⟨b,0+0,none⟩)) (.slice (if cap=1 then a else a.map (·.add 5)) n0 (cap - 1)) (fun k=>k=b) (Pr:=fun _ W'=>W'.heap[b]?=some (.cells (dG (if cap=1 then a else a.map (·.add 5)) n0 (cap - 1) r.adv).toArray 61 (0,0))) (by kernel_rfl) (by kernel_rfl) (fun k e=>e ▸ hblt) (fun W hk=>sM (by rw [hk.block b hblt];exact hb) (by kernel_rfl) 0 (by simp [dG]) rfl rfl) ?_
  intro W w1 B1 hk1 hcl1 _ hk01 hB01 hB1
  refine rs [] 60 2 ?_
  exact gR (.tuple #[.agg #[n8 3,n6 9218868437227405312],.bool true]) (fun W2 hk2=>by
   have hl:dN (t0::ts)=some ((3,9218868437227405312),ts):=by simp only [dN];rw [jZ,if_neg (by omega),if_neg h_nan,if_pos h_inf];rfl
   exact .ret (r':=r.adv) (by rw [hl];unfold Rd.adv;rw [ht];rfl) .rfl (by rw [hl];rfl) (pY hsl hcl1 hk01 hk2 hB01 hblt hF0 hFb ht hn hncap hnb hls2 htb) (hk01.trans (hk2.mono fun k h=>hB01 k h.1)))
 refine gK false (b:=bEqL t0.text [105,110,102]) (by rw [bEqL_eq];exact beq_eq_false_iff_ne.2 h_inf) (rk ?_)
 by_cases h_true:t0.text=[116,114,117,101]
 ·
  refine gK true (b:=bEqL t0.text [116,114,117,101]) (by rw [bEqL_eq];exact beq_iff_eq.2 h_true) (rk ?_)
  refine gV (.slice a (n0+1) cap) (S:=Instr.loadAt 36 (.pointer (some ⟨b,0+0,none⟩))) (fun W hk=>ldB hat (by kernel_rfl) 0 rfl hk) (rs [54] 60 0 ?_)
  refine gV (.slice (if cap=1 then a else a.map (·.add 5)) n0 (cap - 1)) (S:=Instr.sliceAt 36 (.slice a (n0+1) cap) (some (nI 1)) none none) (fun W _=>jM W) (rk ?_)
  refine eU 36 (.pointer (some ⟨b,0+0,none⟩)) (.slice (if cap=1 then a else a.map (·.add 5)) n0 (cap - 1)) (fun k=>k=b) (Pr:=fun _ W'=>W'.heap[b]?=some (.cells (dG (if cap=1 then a else a.map (·.add 5)) n0 (cap - 1) r.adv).toArray 61 (0,0))) (by kernel_rfl) (by kernel_rfl) (fun k e=>e ▸ hblt) (fun W hk=>sM (by rw [hk.block b hblt];exact hb) (by kernel_rfl) 0 (by simp [dG]) rfl rfl) ?_
  intro W w1 B1 hk1 hcl1 _ hk01 hB01 hB1
  refine rs [] 60 2 ?_
  exact gR (.tuple #[.agg #[n8 2,n6 1],.bool true]) (fun W2 hk2=>by
   have hl:dN (t0::ts)=some ((2,1),ts):=by simp only [dN];rw [jZ,if_neg (by omega),if_neg h_nan,if_neg h_inf,if_pos h_true];rfl
   exact .ret (r':=r.adv) (by rw [hl];unfold Rd.adv;rw [ht];rfl) .rfl (by rw [hl];rfl) (pY hsl hcl1 hk01 hk2 hB01 hblt hF0 hFb ht hn hncap hnb hls2 htb) (hk01.trans (hk2.mono fun k h=>hB01 k h.1)))
 refine gK false (b:=bEqL t0.text [116,114,117,101]) (by rw [bEqL_eq];exact beq_eq_false_iff_ne.2 h_true) (rk ?_)
 by_cases h_false:t0.text=[102,97,108,115,101]
 ·
  refine gK true (b:=bEqL t0.text [102,97,108,115,101]) (by rw [bEqL_eq];exact beq_iff_eq.2 h_false) (rk ?_)
  refine gV (.slice a (n0+1) cap) (S:=Instr.loadAt 36 (.pointer (some ⟨b,0+0,none⟩))) (fun W hk=>ldB hat (by kernel_rfl) 0 rfl hk) (rs [54] 60 0 ?_)
  refine gV (.slice (if cap=1 then a else a.map (·.add 5)) n0 (cap - 1)) (S:=Instr.sliceAt 36 (.slice a (n0+1) cap) (some (nI 1)) none none) (fun W _=>jM W) (rk ?_)
  refine eU 36 (.pointer (some ⟨b,0+0,none⟩)) (.slice (if cap=1 then a else a.map (·.add 5)) n0 (cap - 1)) (fun k=>k=b) (Pr:=fun _ W'=>W'.heap[b]?=some (.cells (dG (if cap=1 then a else a.map (·.add 5)) n0 (cap - 1) r.adv).toArray 61 (0,0))) (by kernel_rfl) (by kernel_rfl) (fun k e=>e ▸ hblt) (fun W hk=>sM (by rw [hk.block b hblt];exact hb) (by kernel_rfl) 0 (by simp [dG]) rfl rfl) ?_
  intro W w1 B1 hk1 hcl1 _ hk01 hB01 hB1
  refine rs [] 60 2 ?_
  exact gR (.tuple #[.agg #[n8 2,n6 0],.bool true]) (fun W2 hk2=>by
   have hl:dN (t0::ts)=some ((2,0),ts):=by simp only [dN];rw [jZ,if_neg (by omega),if_neg h_nan,if_neg h_inf,if_neg h_true,if_pos h_false];rfl
   exact .ret (r':=r.adv) (by rw [hl];unfold Rd.adv;rw [ht];rfl) .rfl (by rw [hl];rfl) (pY hsl hcl1 hk01 hk2 hB01 hblt hF0 hFb ht hn hncap hnb hls2 htb) (hk01.trans (hk2.mono fun k h=>hB01 k h.1)))
 refine gK false (b:=bEqL t0.text [102,97,108,115,101]) (by rw [bEqL_eq];exact beq_eq_false_iff_ne.2 h_false) (rs [] 60 2 ?_)
 have hl:dN (t0::ts)=none:=by simp only [dN];rw [jZ,if_neg (by omega),if_neg h_nan,if_neg h_inf,if_neg h_true,if_neg h_false];rfl
 exact gR (.tuple #[.agg #[n8 0,n6 0],.bool false]) (fun W hk => .ret (r':=r) (by rw [hl,ht];rfl) (.rfl) (by rw [hl];rfl) (ri0.to hk) (ri0.all hk))
end
section
open Go.Sy in
set_option maxRecDepth 100000 in
theorem aPx {n:Nat} (hu:aL1 n) (hp:aPn n):aL1 (n+1):=by
 intro b r nest F w hF h hn hn32 hm
 have ri0:=RI.init hF h
 refine eN [nP b] Tryz.func115 (fun γ0 hγ0=>?_)
 refine rk ?_
 refine bU (bV _ _) [nP b] ri0 (by kernel_rfl) (by kernel_rfl) (by kernel_rfl) (by kernel_rfl) (by kernel_rfl) (fun W hF hr hk=>kB b r W hF hr) (fun ho W e p he hk => .pan (by cases ho) e p he hk) ?_
 rintro x1 ts1 r1 ho1 ht1 hn1 W v1 w1 B1 hv1 hkW1 ri1 hk1 hB1 hN1
 cases ho1
 subst hv1
 refine rk ?_
 rcases hT:bX [45] r.toks with _ | us
 rotate_left
 ·
  refine bU (bV _ _) [nP b,nT [45]] ri1 (by kernel_rfl) (by kernel_rfl) (by kernel_rfl) (by kernel_rfl) (by kernel_rfl) (fun W hF hr hk=>dV b _ [45] (ht1 ▸ hT) W hF hr) (fun ho W e p he hk => .pan (by cases ho) e p he hk) ?_
  rintro x2 ts2 r2 ho2 ht2 hn2 W v2 w2 B2 hv2 hkW2 ri2 hk2 hB2 hN2
  cases ho2
  subst hv2
  refine rk ?_
  have hnn:r2.nest=(nest:Int):=by rw [hn2.1,hn1.1,hn]
  have hlen:us.length+1=r.toks.length:=b5 hT
  refine gK true (b:=true) (rfl) (rk ?_)
  refine bU (bV _ _) [nP b,nI (cU r)] ri2 (by kernel_rfl) (by kernel_rfl) (by kernel_rfl) (by kernel_rfl) (by kernel_rfl) (fun W hF hr hk=>oO b r2 _ W hF hr (by omega)) (fun ho W e p he hk => .pan (by simp only [eI,hT];split at ho;cases ho;rename_i h1;rw [if_neg (by omega)]) e p he hk) ?_
  rintro x3 ts3 r3 ho3 ht3 hn3 W v3 w3 B3 hv3 hkW3 ri3 hk3 hB3 hN3
  subst hv3
  refine rk ?_
  split at ho3
  rotate_left
  · cases ho3
  rename_i hd
  cases ho3
  refine bU (bV _ _) [nP b] ri3 (by kernel_rfl) (by kernel_rfl) (by kernel_rfl) (by kernel_rfl) (by kernel_rfl) (fun W hF hr hk=>hu b r3 (nest+1) W hF hr (by rw [hn3.1,hnn];rfl) (by omega) (by rw [ht3,ht2];omega)) (fun ho W e p he hk => .pan (by simp only [eI,hT];rw [if_pos (by omega),← ht2,← ht3,ho]) e p he hk) ?_
  rintro x4 ts4 r4 ho4 ht4 hn4 W v4 w4 B4 hv4 hkW4 ri4 hk4 hB4 hN4
  obtain ⟨op4,ty4,bits4,nm4,kids4,a4,cap4,xs4,hx4,rfl,hq4⟩:=CopyPr.opened hv4
  have he4_4:=iI hN4 hq4
  refine rk ?_
  have hnk:r4.nest=(nest:Int)+1:=by rw [hn4.1,hn3.1,hnn]
  refine gV (nI r4.nest) (S:=Instr.loadAt 3 (.pointer (some ⟨b,0+2,none⟩))) (fun W hk=>ri4.ld hk (by kernel_rfl) 2 (by decide) (fun a n cap=>rfl)) (rs [26] 60 0 ?_)
  refine gS 25 (x:=nI (cA .i64 (r4.nest - 1))) (nI (r4.nest - 1)) (by rw [cR (by omega) (by omega)]) (rk ?_)
  refine nY (ty:=3) 2 (nI (r4.nest - 1)) ({ r4 with nest:=r4.nest - 1 }) ri4 (by kernel_rfl) (by kernel_rfl) (by kernel_rfl) (by decide) (fun a n cap=>rfl) rfl rfl rfl ?_
  intro w5 B5 ri5 hk5 hB5
  obtain ⟨r5,hr5⟩:∃ q:Rd,q={ r4 with nest:=r4.nest - 1 }:=⟨_,rfl⟩
  rw [← hr5] at ri5
  have ht5:r5.toks=r4.toks:=by rw [hr5]
  have he4_5:=j9 ri4 he4_4 hk5 hB5
  refine rs [32] 60 0 ?_
  have hwt:=(o0 n).2.2.1 _ _ _ _ ho4
  have hml:=ri3.len
  have hsp:eI (n+1) nest r.toks=(dY (.mk 16 0 0 [] [x4])).map fun y=>(y,ts4):=by simp only [eI,hT];rw [if_pos (by omega),← ht2,← ht3,ho4]
  refine lP 31 (gz+2) 51 5 1 (xL op4 ty4 bits4 nm4 a4 kids4.length cap4) (by kernel_rfl) (by kernel_rfl) rfl (fun q6 qc6 w6 B6 hk6 hB6 hlt6 hnew6 hsl6=>?_)
  have ri6:=ri5.grow hk6 hB6 hlt6
  have hsn6:=wS ri5 hnew6 hsl6
  have he4_6:=yP he4_5 hk6 hB6
  have hks6:=kids1 he4_6
  refine rk ?_
  refine bU (bV _ _) [n8 16,nI (cU r),.slice (some ⟨q6,0,none⟩) 1 qc6] ri6 (by kernel_rfl) (by kernel_rfl) (by kernel_rfl) (by kernel_rfl) (by kernel_rfl) (fun W hF hr hk=>tH b r5 16 _ _ _ _ (xL op4 ty4 bits4 nm4 a4 kids4.length cap4) [x4] W hF hr rfl ((hsn6.keep (hk.mono fun k g=>g.1)).mono fun k g=>aE (hlt6 k g.1) hk.size) (hks6.keep (hk.mono fun k g=>g.1) fun k g=>aE (hlt6 k g.1) hk.size) (by simp only [wgt,cL];omega)) (fun ho W e p he hk => .pan (by rw [aU] at ho;rw [hsp,ho];rfl) e p he hk) ?_
  rintro x7 ts7 r7 ho7 ht7 hn7 W v7 w7 B7 hv7 hkW7 ri7 hk7 hB7 hN7
  obtain ⟨y7,hy7,e⟩:=aC ho7
  cases e
  subst hv7
  refine rk ?_
  obtain rfl:=(eF hy7).1
  have hsn7:=iQ ri6 hsn6 hk7 hB7
  have hks7:=hks6.keep (jC ri6 hk7) (fun q g=>(⟨hB7 q g.1,g.2⟩:Nw w B7 q))
  have hm7:ExAt (Nw w B7) w7 (.mk 16 0 0 [] [x4]) _:=aB3 (cap:=qc6) 16 hsn7 hks7 rfl
  refine rs [] 60 2 ?_
  have e3:=hn7
  exact gR (xV 16 0 0 [] (some ⟨q6,0,none⟩) 1 qc6) (fun W hk => .ret (r':=r7) (by rw [hsp,hy7,ht7,ht5,ht4];rfl) (⟨by rw [hn7.1,hr5];show r4.nest - 1=r.nest;omega,by rw [hn7.2,hr5];show r4.blocks=r.blocks;rw [hn4.2,hn3.2,hn2.2,hn1.2]⟩) (⟨_,rfl,fF ri7 hm7 hk⟩) (ri7.to hk) (ri7.all hk))
 refine bU (bV _ _) [nP b,nT [45]] ri1 (by kernel_rfl) (by kernel_rfl) (by kernel_rfl) (by kernel_rfl) (by kernel_rfl) (fun W hF hr hk=>dU b _ [45] (ht1 ▸ hT) W hF hr) (fun ho W e p he hk => .pan (by cases ho) e p he hk) ?_
 rintro x2 ts2 r2 ho2 ht2 hn2 W v2 w2 B2 hv2 hkW2 ri2 hk2 hB2 hN2
 cases ho2
 subst hv2
 refine rk ?_
 rw [ht1] at ht2
 refine gK false (b:=false) (rfl) (rk ?_)
 rcases hU:bX [33] r.toks with _ | us
 rotate_left
 ·
  refine bU (bV _ _) [nP b,nT [33]] ri2 (by kernel_rfl) (by kernel_rfl) (by kernel_rfl) (by kernel_rfl) (by kernel_rfl) (fun W hF hr hk=>dV b _ [33] (ht2 ▸ hU) W hF hr) (fun ho W e p he hk => .pan (by cases ho) e p he hk) ?_
  rintro x3 ts3 r3 ho3 ht3 hn3 W v3 w3 B3 hv3 hkW3 ri3 hk3 hB3 hN3
  cases ho3
  subst hv3
  refine rk ?_
  have hnn:r3.nest=(nest:Int):=by rw [hn3.1,hn2.1,hn1.1,hn]
  have hlen:us.length+1=r.toks.length:=b5 hU
  refine gK true (b:=true) (rfl) (rk ?_)
  refine bU (bV _ _) [nP b,nI (cU r)] ri3 (by kernel_rfl) (by kernel_rfl) (by kernel_rfl) (by kernel_rfl) (by kernel_rfl) (fun W hF hr hk=>oO b r3 _ W hF hr (by omega)) (fun ho W e p he hk => .pan (by simp only [eI,hT,hU];split at ho;cases ho;rename_i h1;rw [if_neg (by omega)]) e p he hk) ?_
  rintro x4 ts4 r4 ho4 ht4 hn4 W v4 w4 B4 hv4 hkW4 ri4 hk4 hB4 hN4
  subst hv4
  refine rk ?_
  split at ho4
  rotate_left
  · cases ho4
  rename_i hd
  cases ho4
  refine bU (bV _ _) [nP b] ri4 (by kernel_rfl) (by kernel_rfl) (by kernel_rfl) (by kernel_rfl) (by kernel_rfl) (fun W hF hr hk=>hu b r4 (nest+1) W hF hr (by rw [hn4.1,hnn];rfl) (by omega) (by rw [ht4,ht3];omega)) (fun ho W e p he hk => .pan (by simp only [eI,hT,hU];rw [if_pos (by omega),← ht3,← ht4,ho]) e p he hk) ?_
  rintro x5 ts5 r5 ho5 ht5 hn5 W v5 w5 B5 hv5 hkW5 ri5 hk5 hB5 hN5
  obtain ⟨op5,ty5,bits5,nm5,kids5,a5,cap5,xs5,hx5,rfl,hq5⟩:=CopyPr.opened hv5
  have he5_5:=iI hN5 hq5
  refine rk ?_
  have hnk:r5.nest=(nest:Int)+1:=by rw [hn5.1,hn4.1,hnn]
  refine gV (nI r5.nest) (S:=Instr.loadAt 3 (.pointer (some ⟨b,0+2,none⟩))) (fun W hk=>ri5.ld hk (by kernel_rfl) 2 (by decide) (fun a n cap=>rfl)) (rs [26] 60 0 ?_)
  refine gS 25 (x:=nI (cA .i64 (r5.nest - 1))) (nI (r5.nest - 1)) (by rw [cR (by omega) (by omega)]) (rk ?_)
  refine nY (ty:=3) 2 (nI (r5.nest - 1)) ({ r5 with nest:=r5.nest - 1 }) ri5 (by kernel_rfl) (by kernel_rfl) (by kernel_rfl) (by decide) (fun a n cap=>rfl) rfl rfl rfl ?_
  intro w6 B6 ri6 hk6 hB6
  obtain ⟨r6,hr6⟩:∃ q:Rd,q={ r5 with nest:=r5.nest - 1 }:=⟨_,rfl⟩
  rw [← hr6] at ri6
  have ht6:r6.toks=r5.toks:=by rw [hr6]
  have he5_6:=j9 ri5 he5_5 hk6 hB6
  refine rs [32] 60 0 ?_
  have hwt:=(o0 n).2.2.1 _ _ _ _ ho5
  have hml:=ri4.len
  have hsp:eI (n+1) nest r.toks=(dY (.mk 17 0 0 [] [x5])).map fun y=>(y,ts5):=by simp only [eI,hT,hU];rw [if_pos (by omega),← ht3,← ht4,ho5]
  refine lP 31 (gz+2) 51 5 1 (xL op5 ty5 bits5 nm5 a5 kids5.length cap5) (by kernel_rfl) (by kernel_rfl) rfl (fun q7 qc7 w7 B7 hk7 hB7 hlt7 hnew7 hsl7=>?_)
  have ri7:=ri6.grow hk7 hB7 hlt7
  have hsn7:=wS ri6 hnew7 hsl7
  have he5_7:=yP he5_6 hk7 hB7
  have hks7:=kids1 he5_7
  refine rk ?_
  refine bU (bV _ _) [n8 17,nI (cU r),.slice (some ⟨q7,0,none⟩) 1 qc7] ri7 (by kernel_rfl) (by kernel_rfl) (by kernel_rfl) (by kernel_rfl) (by kernel_rfl) (fun W hF hr hk=>tH b r6 17 _ _ _ _ (xL op5 ty5 bits5 nm5 a5 kids5.length cap5) [x5] W hF hr rfl ((hsn7.keep (hk.mono fun k g=>g.1)).mono fun k g=>aE (hlt7 k g.1) hk.size) (hks7.keep (hk.mono fun k g=>g.1) fun k g=>aE (hlt7 k g.1) hk.size) (by simp only [wgt,cL];omega)) (fun ho W e p he hk => .pan (by rw [aU] at ho;rw [hsp,ho];rfl) e p he hk) ?_
  rintro x8 ts8 r8 ho8 ht8 hn8 W v8 w8 B8 hv8 hkW8 ri8 hk8 hB8 hN8
  obtain ⟨y8,hy8,e⟩:=aC ho8
  cases e
  subst hv8
  refine rk ?_
  obtain rfl:=(eF hy8).1
  have hsn8:=iQ ri7 hsn7 hk8 hB8
  have hks8:=hks7.keep (jC ri7 hk8) (fun q g=>(⟨hB8 q g.1,g.2⟩:Nw w B8 q))
  have hm8:ExAt (Nw w B8) w8 (.mk 17 0 0 [] [x5]) _:=aB3 (cap:=qc7) 17 hsn8 hks8 rfl
  refine rs [] 60 2 ?_
  have e3:=hn8
  exact gR (xV 17 0 0 [] (some ⟨q7,0,none⟩) 1 qc7) (fun W hk => .ret (r':=r8) (by rw [hsp,hy8,ht8,ht6,ht5];rfl) (⟨by rw [hn8.1,hr6];show r5.nest - 1=r.nest;omega,by rw [hn8.2,hr6];show r5.blocks=r.blocks;rw [hn5.2,hn4.2,hn3.2,hn2.2,hn1.2]⟩) (⟨_,rfl,fF ri8 hm8 hk⟩) (ri8.to hk) (ri8.all hk))
 refine bU (bV _ _) [nP b,nT [33]] ri2 (by kernel_rfl) (by kernel_rfl) (by kernel_rfl) (by kernel_rfl) (by kernel_rfl) (fun W hF hr hk=>dU b _ [33] (ht2 ▸ hU) W hF hr) (fun ho W e p he hk => .pan (by cases ho) e p he hk) ?_
 rintro x3 ts3 r3 ho3 ht3 hn3 W v3 w3 B3 hv3 hkW3 ri3 hk3 hB3 hN3
 cases ho3
 subst hv3
 refine rk ?_
 rw [ht2] at ht3
 refine gK false (b:=false) (rfl) (rk ?_)
 refine bU (bV _ _) [nP b] ri3 (by kernel_rfl) (by kernel_rfl) (by kernel_rfl) (by kernel_rfl) (by kernel_rfl) (fun W hF hr hk=>hp b r3 nest W hF hr (by rw [hn3.1,hn2.1,hn1.1,hn]) (by omega) (by rw [ht3];omega)) (fun ho W e p he hk => .pan (by simp only [eI,hT,hU];rw [← ht3];exact ho) e p he hk) ?_
 rintro x4 ts4 r4 ho4 ht4 hn4 W v4 w4 B4 hv4 hkW4 ri4 hk4 hB4 hN4
 obtain ⟨op4,ty4,bits4,nm4,kids4,a4,cap4,xs4,hx4,rfl,hq4⟩:=CopyPr.opened hv4
 have he4_4:=iI hN4 hq4
 refine rk ?_
 refine rs [] 60 2 ?_
 exact gR (xV op4 ty4 bits4 nm4 a4 kids4.length cap4) (fun W hk => .ret (r':=r4) (by simp only [eI,hT,hU];rw [← ht3,ho4,ht4]) (⟨by rw [hn4.1,hn3.1,hn2.1,hn1.1],by rw [hn4.2,hn3.2,hn2.2,hn1.2]⟩) (⟨_,rfl,fF ri4 he4_4 hk⟩) (ri4.to hk) (ri4.all hk))
end
section
set_option maxRecDepth 100000
theorem tD {F:Nat→Prop} {w:World} (op ty bits:Int) (nm:List UInt8):ExAt F w (.mk op ty bits nm []) [.int .u8 op,.int .u8 ty,.int .u64 bits,.string (str nm),.slice none 0 0]:=by
 simp only [ExAt]
 exact ⟨none,0,[],rfl,⟨rfl,.inl rfl⟩,rfl⟩
open Go.Sy
theorem aKr (b:Nat) (r:Rd) {ty bits:Int} {us:List Tok} (hL:dN r.toks=some ((ty,bits),us)) {F:Nat→Prop} (w:World) (hF:∀ k,F k→k<w.heap.size) (h:RdAt F w b r):Calls Tryz.prog 93 #[.pointer (some ⟨b,0,none⟩)] w (Reads F b (Sm r) (some ((),us)) (fun _ _ v _=>v = .tuple #[.agg #[.int .u8 ty,.int .u64 bits],.bool true]) w):=by
 have:=aBx b r w hF h
 rw [hL] at this
 exact this
theorem aK3 (b:Nat) (r:Rd) (hL:dN r.toks=none) {F:Nat→Prop} (w:World) (hF:∀ k,F k→k<w.heap.size) (h:RdAt F w b r):Calls Tryz.prog 93 #[.pointer (some ⟨b,0,none⟩)] w (Reads F b (Sm r) (some ((),r.toks)) (fun _ _ v _=>v = .tuple #[.agg #[.int .u8 0,.int .u64 0],.bool false]) w):=by
 have:=aBx b r w hF h
 rw [hL] at this
 exact this
theorem aQi {n:Nat} (hc:aMb n):aPn (n+1):=by
 intro b r nest F w hF h hn hn32 hm
 have ri0:=RI.init hF h
 refine eN [nP b] Tryz.func133 (fun γ0 hγ0=>?_)
 refine rk ?_
 rcases hL:dN r.toks with _ | ⟨⟨ty,bits⟩,us⟩
 rotate_left
 ·
  refine bU (bV _ _) [nP b] ri0 (by kernel_rfl) (by kernel_rfl) (by kernel_rfl) (by kernel_rfl) (by kernel_rfl) (fun W hF hr hk=>aKr b r hL W hF hr) (fun ho W e p he hk => .pan (by cases ho) e p he hk) ?_
  rintro x1 ts1 r1 ho1 ht1 hn1 W v1 w1 B1 hv1 hkW1 ri1 hk1 hB1 hN1
  cases ho1
  subst hv1
  refine rk ?_
  refine gK true (b:=true) (rfl) (rs [] 60 2 ?_)
  exact gR (xV 1 ty bits [] none 0 0) (fun W hk => .ret (r':=r1) (by simp only [e7,hL];rw [ht1]) (hn1) (⟨_,rfl,tD 1 ty bits []⟩) (ri1.to hk) (ri1.all hk))
 refine bU (bV _ _) [nP b] ri0 (by kernel_rfl) (by kernel_rfl) (by kernel_rfl) (by kernel_rfl) (by kernel_rfl) (fun W hF hr hk=>aK3 b r hL W hF hr) (fun ho W e p he hk => .pan (by cases ho) e p he hk) ?_
 rintro x1 ts1 r1 ho1 ht1 hn1 W v1 w1 B1 hv1 hkW1 ri1 hk1 hB1 hN1
 cases ho1
 subst hv1
 refine rk ?_
 refine gK false (b:=false) (rfl) (rk ?_)
 refine bU (bV _ _) [nP b] ri1 (by kernel_rfl) (by kernel_rfl) (by kernel_rfl) (by kernel_rfl) (by kernel_rfl) (fun W hF hr hk=>kB b r1 W hF hr) (fun ho W e p he hk => .pan (by cases ho) e p he hk) ?_
 rintro x2 ts2 r2 ho2 ht2 hn2 W v2 w2 B2 hv2 hkW2 ri2 hk2 hB2 hN2
 cases ho2
 subst hv2
 refine rk ?_
 rw [ht1] at ht2
 rcases hA:bX [40] r.toks with _ | us
 rotate_left
 ·
  refine bU (bV _ _) [nP b,nT [40]] ri2 (by kernel_rfl) (by kernel_rfl) (by kernel_rfl) (by kernel_rfl) (by kernel_rfl) (fun W hF hr hk=>dV b _ [40] (ht2 ▸ hA) W hF hr) (fun ho W e p he hk => .pan (by cases ho) e p he hk) ?_
  rintro x3 ts3 r3 ho3 ht3 hn3 W v3 w3 B3 hv3 hkW3 ri3 hk3 hB3 hN3
  cases ho3
  subst hv3
  refine rk ?_
  have hnn:r3.nest=(nest:Int):=by rw [hn3.1,hn2.1,hn1.1,hn]
  have hbb:r3.blocks=r.blocks:=by rw [hn3.2,hn2.2,hn1.2]
  have hlen:us.length+1=r.toks.length:=b5 hA
  refine gK true (b:=true) (rfl) (rk ?_)
  refine bU (bV _ _) [nP b,nI (cU r1)] ri3 (by kernel_rfl) (by kernel_rfl) (by kernel_rfl) (by kernel_rfl) (by kernel_rfl) (fun W hF hr hk=>aQ5 hc b r3 nest _ W hF hr hnn (by omega) (by rw [ht3];omega)) (fun ho W e p he hk => .pan (by simp only [e7,hL,hA];rw [← ht3];exact ho) e p he hk) ?_
  rintro x4 ts4 r4 ho4 ht4 hn4 W v4 w4 B4 hv4 hkW4 ri4 hk4 hB4 hN4
  obtain ⟨op4,ty4,bits4,nm4,kids4,a4,cap4,xs4,hx4,rfl,hq4⟩:=CopyPr.opened hv4
  have he4_4:=iI hN4 hq4
  refine rk ?_
  refine rs [] 60 2 ?_
  exact gR (xV op4 ty4 bits4 nm4 a4 kids4.length cap4) (fun W hk => .ret (r':=r4) (by simp only [e7,hL,hA];rw [← ht3,ho4,ht4]) (⟨by rw [hn4.1,hnn,hn],by rw [hn4.2,hbb]⟩) (⟨_,rfl,fF ri4 he4_4 hk⟩) (ri4.to hk) (ri4.all hk))
 refine bU (bV _ _) [nP b,nT [40]] ri2 (by kernel_rfl) (by kernel_rfl) (by kernel_rfl) (by kernel_rfl) (by kernel_rfl) (fun W hF hr hk=>dU b _ [40] (ht2 ▸ hA) W hF hr) (fun ho W e p he hk => .pan (by cases ho) e p he hk) ?_
 rintro x3 ts3 r3 ho3 ht3 hn3 W v3 w3 B3 hv3 hkW3 ri3 hk3 hB3 hN3
 cases ho3
 subst hv3
 refine rk ?_
 rw [ht2] at ht3
 refine gK false (b:=false) (rfl) (rk ?_)
 rcases hI:bX [105,110,116] r.toks with _ | us
 rotate_left
 ·
  refine bU (bV _ _) [nP b,nT [105,110,116]] ri3 (by kernel_rfl) (by kernel_rfl) (by kernel_rfl) (by kernel_rfl) (by kernel_rfl) (fun W hF hr hk=>dV b _ [105,110,116] (ht3 ▸ hI) W hF hr) (fun ho W e p he hk => .pan (by cases ho) e p he hk) ?_
  rintro x4 ts4 r4 ho4 ht4 hn4 W v4 w4 B4 hv4 hkW4 ri4 hk4 hB4 hN4
  cases ho4
  subst hv4
  refine rk ?_
  have hnn:r4.nest=(nest:Int):=by rw [hn4.1,hn3.1,hn2.1,hn1.1,hn]
  have hbb:r4.blocks=r.blocks:=by rw [hn4.2,hn3.2,hn2.2,hn1.2]
  have hlen:us.length+1=r.toks.length:=b5 hI
  refine gK true (b:=true) (rfl) (rk ?_)
  refine bU (bV _ _) [nP b,nI (cU r1)] ri4 (by kernel_rfl) (by kernel_rfl) (by kernel_rfl) (by kernel_rfl) (by kernel_rfl) (fun W hF hr hk=>oO b r4 _ W hF hr (by omega)) (fun ho W e p he hk => .pan (by simp only [e7,hL,hA,hI];split at ho;cases ho;rename_i h1;rw [if_neg (by omega)]) e p he hk) ?_
  rintro x5 ts5 r5 ho5 ht5 hn5 W v5 w5 B5 hv5 hkW5 ri5 hk5 hB5 hN5
  subst hv5
  refine rk ?_
  split at ho5
  rotate_left
  · cases ho5
  rename_i hd
  cases ho5
  rw [ht4] at ht5
  refine bU (bV _ _) [nP b,nT [40]] ri5 (by kernel_rfl) (by kernel_rfl) (by kernel_rfl) (by kernel_rfl) (by kernel_rfl) (fun W hF hr hk=>e8 b _ [40] W hF hr) (fun ho W e p he hk => .pan (by simp only [e7,hL,hA,hI];rw [if_pos (by omega)];unfold dD at ho;rw [aU,ht5] at ho;rw [ho]) e p he hk) ?_
  rintro x6 ts6 r6 ho6 ht6 hn6 W v6 w6 B6 hv6 hkW6 ri6 hk6 hB6 hN6
  unfold dD at ho6
  rw [ht5] at ho6
  obtain ⟨vs,hvs,e⟩:=aC ho6
  cases e
  subst hv6
  refine rk ?_
  have hlen2:=b5 hvs
  refine bU (bV _ _) [nP b] ri6 (by kernel_rfl) (by kernel_rfl) (by kernel_rfl) (by kernel_rfl) (by kernel_rfl) (fun W hF hr hk=>hc b r6 (nest+1) W hF hr (by rw [hn6.1,hn5.1,hnn];rfl) (by omega) (by omega) (by rw [ht6];omega)) (fun ho W e p he hk => .pan (by simp only [e7,hL,hA,hI];rw [if_pos (by omega)];simp only [hvs];rw [← ht6,ho]) e p he hk) ?_
  rintro x7 ts7 r7 ho7 ht7 hn7 W v7 w7 B7 hv7 hkW7 ri7 hk7 hB7 hN7
  obtain ⟨op7,ty7,bits7,nm7,kids7,a7,cap7,xs7,hx7,rfl,hq7⟩:=CopyPr.opened hv7
  have he7_7:=iI hN7 hq7
  refine rs [42] 60 0 ?_
  have hwt:=(o0 n).2.2.2.2 _ _ _ _ ho7
  have hml:=ri6.len
  have hsp:e7 (n+1) nest r.toks=(dY (.mk 18 0 0 [] [x7])).map fun y=>(y,ts7):=by simp only [e7,hL,hA,hI];rw [if_pos (by omega)];simp only [hvs];rw [← ht6,ho7]
  refine lP 41 (gz+2) 51 5 1 (xL op7 ty7 bits7 nm7 a7 kids7.length cap7) (by kernel_rfl) (by kernel_rfl) rfl (fun q8 qc8 w8 B8 hk8 hB8 hlt8 hnew8 hsl8=>?_)
  have ri8:=ri7.grow hk8 hB8 hlt8
  have hsn8:=wS ri7 hnew8 hsl8
  have he7_8:=yP he7_7 hk8 hB8
  have hks8:=kids1 he7_8
  refine rk ?_
  refine bU (bV _ _) [n8 18,nI (cU r1),.slice (some ⟨q8,0,none⟩) 1 qc8] ri8 (by kernel_rfl) (by kernel_rfl) (by kernel_rfl) (by kernel_rfl) (by kernel_rfl) (fun W hF hr hk=>tH b r7 18 _ _ _ _ (xL op7 ty7 bits7 nm7 a7 kids7.length cap7) [x7] W hF hr rfl ((hsn8.keep (hk.mono fun k g=>g.1)).mono fun k g=>aE (hlt8 k g.1) hk.size) (hks8.keep (hk.mono fun k g=>g.1) fun k g=>aE (hlt8 k g.1) hk.size) (by simp only [wgt,cL];omega)) (fun ho W e p he hk => .pan (by rw [aU] at ho;rw [hsp,ho];rfl) e p he hk) ?_
  rintro x9 ts9 r9 ho9 ht9 hn9 W v9 w9 B9 hv9 hkW9 ri9 hk9 hB9 hN9
  obtain ⟨y9,hy9,e⟩:=aC ho9
  cases e
  subst hv9
  refine rk ?_
  obtain rfl:=(eF hy9).1
  have hsn9:=iQ ri8 hsn8 hk9 hB9
  have hks9:=hks8.keep (jC ri8 hk9) (fun q g=>(⟨hB9 q g.1,g.2⟩:Nw w B9 q))
  have hm9:ExAt (Nw w B9) w9 (.mk 18 0 0 [] [x7]) _:=aB3 (cap:=qc8) 18 hsn9 hks9 rfl
  refine rs [] 60 2 ?_
  exact gR (xV 18 0 0 [] (some ⟨q8,0,none⟩) 1 qc8) (fun W hk => .ret (r':=r9) (by rw [hsp,hy9,ht9,ht7];rfl) (⟨by rw [hn9.1,hn7.1,hn6.1,hn5.1,hnn,hn];omega,by rw [hn9.2,hn7.2,hn6.2,hn5.2,hbb]⟩) (⟨_,rfl,fF ri9 hm9 hk⟩) (ri9.to hk) (ri9.all hk))
 refine bU (bV _ _) [nP b,nT [105,110,116]] ri3 (by kernel_rfl) (by kernel_rfl) (by kernel_rfl) (by kernel_rfl) (by kernel_rfl) (fun W hF hr hk=>dU b _ [105,110,116] (ht3 ▸ hI) W hF hr) (fun ho W e p he hk => .pan (by cases ho) e p he hk) ?_
 rintro x4 ts4 r4 ho4 ht4 hn4 W v4 w4 B4 hv4 hkW4 ri4 hk4 hB4 hN4
 cases ho4
 subst hv4
 refine rk ?_
 rw [ht3] at ht4
 refine gK false (b:=false) (rfl) (rk ?_)
 rcases hR:bX [114,101,97,108] r.toks with _ | us
 rotate_left
 ·
  refine bU (bV _ _) [nP b,nT [114,101,97,108]] ri4 (by kernel_rfl) (by kernel_rfl) (by kernel_rfl) (by kernel_rfl) (by kernel_rfl) (fun W hF hr hk=>dV b _ [114,101,97,108] (ht4 ▸ hR) W hF hr) (fun ho W e p he hk => .pan (by cases ho) e p he hk) ?_
  rintro x5 ts5 r5 ho5 ht5 hn5 W v5 w5 B5 hv5 hkW5 ri5 hk5 hB5 hN5
  cases ho5
  subst hv5
  refine rk ?_
  have hnn:r5.nest=(nest:Int):=by rw [hn5.1,hn4.1,hn3.1,hn2.1,hn1.1,hn]
  have hbb:r5.blocks=r.blocks:=by rw [hn5.2,hn4.2,hn3.2,hn2.2,hn1.2]
  have hlen:us.length+1=r.toks.length:=b5 hR
  refine gK true (b:=true) (rfl) (rk ?_)
  refine bU (bV _ _) [nP b,nI (cU r1)] ri5 (by kernel_rfl) (by kernel_rfl) (by kernel_rfl) (by kernel_rfl) (by kernel_rfl) (fun W hF hr hk=>oO b r5 _ W hF hr (by omega)) (fun ho W e p he hk => .pan (by simp only [e7,hL,hA,hI,hR];split at ho;cases ho;rename_i h1;rw [if_neg (by omega)]) e p he hk) ?_
  rintro x6 ts6 r6 ho6 ht6 hn6 W v6 w6 B6 hv6 hkW6 ri6 hk6 hB6 hN6
  subst hv6
  refine rk ?_
  split at ho6
  rotate_left
  · cases ho6
  rename_i hd
  cases ho6
  rw [ht5] at ht6
  refine bU (bV _ _) [nP b,nT [40]] ri6 (by kernel_rfl) (by kernel_rfl) (by kernel_rfl) (by kernel_rfl) (by kernel_rfl) (fun W hF hr hk=>e8 b _ [40] W hF hr) (fun ho W e p he hk => .pan (by simp only [e7,hL,hA,hI,hR];rw [if_pos (by omega)];unfold dD at ho;rw [aU,ht6] at ho;rw [ho]) e p he hk) ?_
  rintro x7 ts7 r7 ho7 ht7 hn7 W v7 w7 B7 hv7 hkW7 ri7 hk7 hB7 hN7
  unfold dD at ho7
  rw [ht6] at ho7
  obtain ⟨vs,hvs,e⟩:=aC ho7
  cases e
  subst hv7
  refine rk ?_
  have hlen2:=b5 hvs
  refine bU (bV _ _) [nP b] ri7 (by kernel_rfl) (by kernel_rfl) (by kernel_rfl) (by kernel_rfl) (by kernel_rfl) (fun W hF hr hk=>hc b r7 (nest+1) W hF hr (by rw [hn7.1,hn6.1,hnn];rfl) (by omega) (by omega) (by rw [ht7];omega)) (fun ho W e p he hk => .pan (by simp only [e7,hL,hA,hI,hR];rw [if_pos (by omega)];simp only [hvs];rw [← ht7,ho]) e p he hk) ?_
  rintro x8 ts8 r8 ho8 ht8 hn8 W v8 w8 B8 hv8 hkW8 ri8 hk8 hB8 hN8
  obtain ⟨op8,ty8,bits8,nm8,kids8,a8,cap8,xs8,hx8,rfl,hq8⟩:=CopyPr.opened hv8
  have he8_8:=iI hN8 hq8
  refine rs [42] 60 0 ?_
  have hwt:=(o0 n).2.2.2.2 _ _ _ _ ho8
  have hml:=ri7.len
  have hsp:e7 (n+1) nest r.toks=(dY (.mk 19 0 0 [] [x8])).map fun y=>(y,ts8):=by simp only [e7,hL,hA,hI,hR];rw [if_pos (by omega)];simp only [hvs];rw [← ht7,ho8]
  refine lP 41 (gz+2) 51 5 1 (xL op8 ty8 bits8 nm8 a8 kids8.length cap8) (by kernel_rfl) (by kernel_rfl) rfl (fun q9 qc9 w9 B9 hk9 hB9 hlt9 hnew9 hsl9=>?_)
  have ri9:=ri8.grow hk9 hB9 hlt9
  have hsn9:=wS ri8 hnew9 hsl9
  have he8_9:=yP he8_8 hk9 hB9
  have hks9:=kids1 he8_9
  refine rk ?_
  refine bU (bV _ _) [n8 19,nI (cU r1),.slice (some ⟨q9,0,none⟩) 1 qc9] ri9 (by kernel_rfl) (by kernel_rfl) (by kernel_rfl) (by kernel_rfl) (by kernel_rfl) (fun W hF hr hk=>tH b r8 19 _ _ _ _ (xL op8 ty8 bits8 nm8 a8 kids8.length cap8) [x8] W hF hr rfl ((hsn9.keep (hk.mono fun k g=>g.1)).mono fun k g=>aE (hlt9 k g.1) hk.size) (hks9.keep (hk.mono fun k g=>g.1) fun k g=>aE (hlt9 k g.1) hk.size) (by simp only [wgt,cL];omega)) (fun ho W e p he hk => .pan (by rw [aU] at ho;rw [hsp,ho];rfl) e p he hk) ?_
  rintro x10 ts10 r10 ho10 ht10 hn10 W v10 w10 B10 hv10 hkW10 ri10 hk10 hB10 hN10
  obtain ⟨y10,hy10,e⟩:=aC ho10
  cases e
  subst hv10
  refine rk ?_
  obtain rfl:=(eF hy10).1
  have hsn10:=iQ ri9 hsn9 hk10 hB10
  have hks10:=hks9.keep (jC ri9 hk10) (fun q g=>(⟨hB10 q g.1,g.2⟩:Nw w B10 q))
  have hm10:ExAt (Nw w B10) w10 (.mk 19 0 0 [] [x8]) _:=aB3 (cap:=qc9) 19 hsn10 hks10 rfl
  refine rs [] 60 2 ?_
  exact gR (xV 19 0 0 [] (some ⟨q9,0,none⟩) 1 qc9) (fun W hk => .ret (r':=r10) (by rw [hsp,hy10,ht10,ht8];rfl) (⟨by rw [hn10.1,hn8.1,hn7.1,hn6.1,hnn,hn];omega,by rw [hn10.2,hn8.2,hn7.2,hn6.2,hbb]⟩) (⟨_,rfl,fF ri10 hm10 hk⟩) (ri10.to hk) (ri10.all hk))
 refine bU (bV _ _) [nP b,nT [114,101,97,108]] ri4 (by kernel_rfl) (by kernel_rfl) (by kernel_rfl) (by kernel_rfl) (by kernel_rfl) (fun W hF hr hk=>dU b _ [114,101,97,108] (ht4 ▸ hR) W hF hr) (fun ho W e p he hk => .pan (by cases ho) e p he hk) ?_
 rintro x5 ts5 r5 ho5 ht5 hn5 W v5 w5 B5 hv5 hkW5 ri5 hk5 hB5 hN5
 cases ho5
 subst hv5
 refine rk ?_
 rw [ht4] at ht5
 refine gK false (b:=false) (rfl) (rk ?_)
 refine bU (bV _ _) [nP b] ri5 (by kernel_rfl) (by kernel_rfl) (by kernel_rfl) (by kernel_rfl) (by kernel_rfl) (fun W hF hr hk=>nN b _ W hF hr) (fun ho W e p he hk => .pan (by simp only [e7,hL,hA,hI,hR];rw [← ht5,ho];rfl) e p he hk) ?_
 rintro x6 ts6 r6 ho6 ht6 hn6 W v6 w6 B6 hv6 hkW6 ri6 hk6 hB6 hN6
 subst hv6
 refine rs [] 60 2 ?_
 exact gR (xV 2 0 0 x6 none 0 0) (fun W hk => .ret (r':=r6) (by simp only [e7,hL,hA,hI,hR];rw [← ht5,ho6,ht6];rfl) (⟨by rw [hn6.1,hn5.1,hn4.1,hn3.1,hn2.1,hn1.1],by rw [hn6.2,hn5.2,hn4.2,hn3.2,hn2.2,hn1.2]⟩) (⟨_,rfl,tD 2 0 0 x6⟩) (ri6.to hk) (ri6.all hk))
end
section
open Go.Sy in
set_option maxRecDepth 100000 in
theorem aLk (s:List UInt8) (w:World):CB 116 #[nT s] w (.tuple #[n8 (sgK s).1,nI (sgK s).2]):=by
 refine eN [nT s] Tryz.func116 (fun γ0 hγ0=>?_)
 refine rk ?_
 by_cases h0:s=[124,124]
 ·
  refine gK true (b:=bEqL s [124,124]) (by rw [bEqL_eq];exact beq_iff_eq.2 h0) (rs [] 60 2 ?_)
  exact gR (.tuple #[n8 3,nI 0]) (fun W hk=>⟨by rw [show sgK s=(3,0) by rw [h0];decide],hk.below⟩)
 refine gK false (b:=bEqL s [124,124]) (by rw [bEqL_eq];exact beq_eq_false_iff_ne.2 h0) (rk ?_)
 by_cases h1:s=[38,38]
 ·
  refine gK true (b:=bEqL s [38,38]) (by rw [bEqL_eq];exact beq_iff_eq.2 h1) (rs [] 60 2 ?_)
  exact gR (.tuple #[n8 4,nI 1]) (fun W hk=>⟨by rw [show sgK s=(4,1) by rw [h1];decide],hk.below⟩)
 refine gK false (b:=bEqL s [38,38]) (by rw [bEqL_eq];exact beq_eq_false_iff_ne.2 h1) (rk ?_)
 by_cases h2:s=[61,61]
 ·
  refine gK true (b:=bEqL s [61,61]) (by rw [bEqL_eq];exact beq_iff_eq.2 h2) (rs [] 60 2 ?_)
  exact gR (.tuple #[n8 5,nI 2]) (fun W hk=>⟨by rw [show sgK s=(5,2) by rw [h2];decide],hk.below⟩)
 refine gK false (b:=bEqL s [61,61]) (by rw [bEqL_eq];exact beq_eq_false_iff_ne.2 h2) (rk ?_)
 by_cases h3:s=[33,61]
 ·
  refine gK true (b:=bEqL s [33,61]) (by rw [bEqL_eq];exact beq_iff_eq.2 h3) (rs [] 60 2 ?_)
  exact gR (.tuple #[n8 6,nI 2]) (fun W hk=>⟨by rw [show sgK s=(6,2) by rw [h3];decide],hk.below⟩)
 refine gK false (b:=bEqL s [33,61]) (by rw [bEqL_eq];exact beq_eq_false_iff_ne.2 h3) (rk ?_)
 by_cases h4:s=[60]
 ·
  refine gK true (b:=bEqL s [60]) (by rw [bEqL_eq];exact beq_iff_eq.2 h4) (rs [] 60 2 ?_)
  exact gR (.tuple #[n8 7,nI 2]) (fun W hk=>⟨by rw [show sgK s=(7,2) by rw [h4];decide],hk.below⟩)
 refine gK false (b:=bEqL s [60]) (by rw [bEqL_eq];exact beq_eq_false_iff_ne.2 h4) (rk ?_)
 by_cases h5:s=[60,61]
 ·
  refine gK true (b:=bEqL s [60,61]) (by rw [bEqL_eq];exact beq_iff_eq.2 h5) (rs [] 60 2 ?_)
  exact gR (.tuple #[n8 8,nI 2]) (fun W hk=>⟨by rw [show sgK s=(8,2) by rw [h5];decide],hk.below⟩)
 refine gK false (b:=bEqL s [60,61]) (by rw [bEqL_eq];exact beq_eq_false_iff_ne.2 h5) (rk ?_)
 by_cases h6:s=[62]
 ·
  refine gK true (b:=bEqL s [62]) (by rw [bEqL_eq];exact beq_iff_eq.2 h6) (rs [] 60 2 ?_)
  exact gR (.tuple #[n8 9,nI 2]) (fun W hk=>⟨by rw [show sgK s=(9,2) by rw [h6];decide],hk.below⟩)
 refine gK false (b:=bEqL s [62]) (by rw [bEqL_eq];exact beq_eq_false_iff_ne.2 h6) (rk ?_)
 by_cases h7:s=[62,61]
 ·
  refine gK true (b:=bEqL s [62,61]) (by rw [bEqL_eq];exact beq_iff_eq.2 h7) (rs [] 60 2 ?_)
  exact gR (.tuple #[n8 10,nI 2]) (fun W hk=>⟨by rw [show sgK s=(10,2) by rw [h7];decide],hk.below⟩)
 refine gK false (b:=bEqL s [62,61]) (by rw [bEqL_eq];exact beq_eq_false_iff_ne.2 h7) (rk ?_)
 by_cases h8:s=[43]
 ·
  refine gK true (b:=bEqL s [43]) (by rw [bEqL_eq];exact beq_iff_eq.2 h8) (rs [] 60 2 ?_)
  exact gR (.tuple #[n8 11,nI 3]) (fun W hk=>⟨by rw [show sgK s=(11,3) by rw [h8];decide],hk.below⟩)
 refine gK false (b:=bEqL s [43]) (by rw [bEqL_eq];exact beq_eq_false_iff_ne.2 h8) (rk ?_)
 by_cases h9:s=[45]
 ·
  refine gK true (b:=bEqL s [45]) (by rw [bEqL_eq];exact beq_iff_eq.2 h9) (rs [] 60 2 ?_)
  exact gR (.tuple #[n8 12,nI 3]) (fun W hk=>⟨by rw [show sgK s=(12,3) by rw [h9];decide],hk.below⟩)
 refine gK false (b:=bEqL s [45]) (by rw [bEqL_eq];exact beq_eq_false_iff_ne.2 h9) (rk ?_)
 by_cases h10:s=[42]
 ·
  refine gK true (b:=bEqL s [42]) (by rw [bEqL_eq];exact beq_iff_eq.2 h10) (rs [] 60 2 ?_)
  exact gR (.tuple #[n8 13,nI 4]) (fun W hk=>⟨by rw [show sgK s=(13,4) by rw [h10];decide],hk.below⟩)
 refine gK false (b:=bEqL s [42]) (by rw [bEqL_eq];exact beq_eq_false_iff_ne.2 h10) (rk ?_)
 by_cases h11:s=[47]
 ·
  refine gK true (b:=bEqL s [47]) (by rw [bEqL_eq];exact beq_iff_eq.2 h11) (rs [] 60 2 ?_)
  exact gR (.tuple #[n8 14,nI 4]) (fun W hk=>⟨by rw [show sgK s=(14,4) by rw [h11];decide],hk.below⟩)
 refine gK false (b:=bEqL s [47]) (by rw [bEqL_eq];exact beq_eq_false_iff_ne.2 h11) (rk ?_)
 by_cases h12:s=[37]
 ·
  refine gK true (b:=bEqL s [37]) (by rw [bEqL_eq];exact beq_iff_eq.2 h12) (rs [] 60 2 ?_)
  exact gR (.tuple #[n8 15,nI 4]) (fun W hk=>⟨by rw [show sgK s=(15,4) by rw [h12];decide],hk.below⟩)
 refine gK false (b:=bEqL s [37]) (by rw [bEqL_eq];exact beq_eq_false_iff_ne.2 h12) (rs [] 60 2 ?_)
 exact gR (.tuple #[n8 0,nI (-1)]) (fun W hk=>⟨by rw [show sgK s=(0,-1) by rw [sgK,if_neg h0,if_neg h1,if_neg h2,if_neg h3,if_neg h4,if_neg h5,if_neg h6,if_neg h7,if_neg h8,if_neg h9,if_neg h10,if_neg h11,if_neg h12]],hk.below⟩)
end
section
theorem RI.adv {F B0 B1:Nat→Prop} {w w0 w1:World} {b n0 cap:Nat} {a:Option Addr} {r:Rd} {t0:Tok} {ts:List Tok} {xs2:List Value} (ri:RI F w b r B0 w0) (hsl:Sy.SlAt F w0 a (n0+1) 5 ([.int .i64 t0.kind,.string (str t0.text),.int .i64 t0.pos,.int .u8 t0.ty,.int .u64 t0.bits]++xs2))
  (hcl1:w1.heap[b]?=some (.cells (dG (if cap=1 then a else a.map (·.add 5)) n0 (cap - 1) r.adv).toArray 61 (0,0))) (hk:Sy.Keep (fun k=>B0 k∧¬ k=b) w0 w1) (hB:∀ k,B0 k→B1 k) (hl:∀ k,B1 k→k<w1.heap.size)
  (hFb:¬ F b) (ht:r.toks=t0::ts) (hn:n0+1=(t0::ts).length) (hncap:n0+1≤cap) (hnb:n0+1≤1000000000) (hls2:LsAt TokAt ts xs2) (htb:∀ t∈r.toks,t.text.length≤16384):RI F w b r.adv B1 w1:=by
 have hsl1:=(rY hsl rfl hncap).keep (hk.mono fun k h=>⟨ri.old k (ri.hF k h),fun e=>hFb (e ▸ h)⟩)
 have hn':n0+1=ts.length+1:=hn
 exact ⟨⟨_,n0,cap - 1,xs2,hcl1,by show n0=r.toks.tail.length;rw [ht];show n0=ts.length;omega,by omega,by omega,hsl1,by show LsAt TokAt r.toks.tail xs2;rw [ht];exact hls2,hFb,fun t h=>htb t (List.mem_of_mem_tail h)⟩,ri.keep.trans (hk.mono fun k h=>⟨ri.old k h.1,h.2⟩),fun k h=>hB k (ri.old k h),hl,ri.hF,ri.hb⟩
theorem aDr {m least nest:Nat} {e:Ex} {ts:List Tok} (h:ts=[]∨∃ t us,ts=t::us∧¬ (t.kind=4∧(sgK t.text).2=(least:Int))):eM (m+1) least nest e ts=some (e,ts):=by
 rcases h with rfl | ⟨t,us,rfl,h⟩
 · simp only [eM]
 · simp only [eM]
   rw [if_neg h]
theorem aRt {m least nest:Nat} {e:Ex} {ts us:List Tok} {t:Tok} (ht:ts=t::us) (h4:t.kind=4) (hl:(sgK t.text).2=(least:Int)) (h:eK m (least+1) nest us=none):eM (m+1) least nest e ts=none:=by
 subst ht
 simp only [eM]
 rw [if_pos ⟨h4,hl⟩,h]
theorem aUh {m least nest:Nat} {e x:Ex} {ts us vs:List Tok} {t:Tok} {op tg:Int} (ht:ts=t::us) (h4:t.kind=4) (hs:(op,tg)=sgK t.text) (hl:tg=(least:Int)) (h:eK m (least+1) nest us=some (x,vs)):
  eM (m+1) least nest e ts=match dY (.mk op 0 0 [] [e,x]) with
   | none=>none
   | some y=>if 5≤op∧op≤10 then some (y,vs) else eM m least nest y vs:=by
 subst ht
 simp only [eM]
 rw [← hs]
 simp only
 rw [if_pos ⟨h4,hl⟩,h]
 rfl
structure LpI where
 r:Rd
 e:Ex
 op:Int
 ty:Int
 bits:Int
 nm:List UInt8
 kids:List Ex
 a:Option Addr
 cap:Nat
 m:Nat
def aLj (F:Nat→Prop) (w:World) (b:Nat) (r:Rd) (n least nest:Nat) (i:LpI) (B:Nat→Prop) (w1:World):Prop:=
 RI F w b i.r B w1∧ExAt (Nw w B) w1 i.e [.int .u8 i.op,.int .u8 i.ty,.int .u64 i.bits,.string (str i.nm),.slice i.a i.kids.length i.cap]∧i.e = .mk i.op i.ty i.bits i.nm i.kids∧i.r.nest=(nest:Int)∧i.r.blocks=r.blocks∧
  eK (n+1) least nest r.toks=eM (i.m+1) least nest i.e i.r.toks∧i.m+1≤n∧10*i.r.toks.length+8≤i.m+1+least∧wgt i.e+i.r.toks.length≤r.toks.length
open Go.Sy in
set_option maxRecDepth 100000 in
theorem aP5 {n:Nat} (hb:∀ m,m≤n→aL7 m) (hu:aL1 n):aL7 (n+1):=by
 intro b r least nest F w hF h hn hn32 hl5 hm
 have ri0:=RI.init hF h
 refine eN [nP b,nI (least:Int)] Tryz.func92 (fun γ0 hγ0=>?_)
 refine rk ?_
 by_cases hl4:4<least
 ·
  refine kx 4 (least:Int) (by omega) (rk ?_)
  refine bU (bV _ _) [nP b] ri0 (by kernel_rfl) (by kernel_rfl) (by kernel_rfl) (by kernel_rfl) (by kernel_rfl) (fun W hF hr hk=>hu b r nest W hF hr hn hn32 (by omega)) (fun ho W e p he hk => .pan (by simp only [eK];rw [if_pos hl4,ho]) e p he hk) ?_
  rintro x1 ts1 r1 ho1 ht1 hn1 W v1 w1 B1 hv1 hkW1 ri1 hk1 hB1 hN1
  obtain ⟨op1,ty1,bits1,nm1,kids1,a1,cap1,xs1,hx1,rfl,hq1⟩:=CopyPr.opened hv1
  have he1_1:=iI hN1 hq1
  refine rs [] 60 2 ?_
  exact gR (xV op1 ty1 bits1 nm1 a1 kids1.length cap1) (fun W hk => .ret (r':=r1) (by simp only [eK];rw [if_pos hl4,ho1,ht1]) (hn1) (⟨_,rfl,fF ri1 he1_1 hk⟩) (ri1.to hk) (ri1.all hk))
 refine ky 4 (least:Int) (by omega) (rs [16] 60 0 ?_)
 refine gS 15 (x:=nI (cA .i64 ((least:Int)+1))) (nI ((least+1:Nat):Int)) (by rw [cR (by omega) (by omega)];rfl) ?_
 refine bU (bV _ _) [nP b,nI ((least+1:Nat):Int)] ri0 (by kernel_rfl) (by kernel_rfl) (by kernel_rfl) (by kernel_rfl) (by kernel_rfl) (fun W hF hr hk=>hb n (aH _) b r (least+1) nest W hF hr hn hn32 (by omega) (by omega)) (fun ho W e p he hk => .pan (by simp only [eK];rw [if_neg hl4,ho]) e p he hk) ?_
 rintro x1 ts1 r1 ho1 ht1 hn1 W v1 w1 B1 hv1 hkW1 ri1 hk1 hB1 hN1
 obtain ⟨op1,ty1,bits1,nm1,kids1,a1,cap1,xs1,hx1,rfl,hq1⟩:=CopyPr.opened hv1
 have he1_1:=iI hN1 hq1
 refine rk ?_
 have hwt1:=(o0 n).1 _ _ _ _ _ ho1
 have hml:=ri0.len
 have hp1:0<wgt x1:=fS x1
 have hsp:eK (n+1) least nest r.toks=eM n least nest x1 ts1:=by simp only [eK];rw [if_neg hl4,ho1]
 obtain ⟨m0,hm0⟩:∃ m,n=m+1:=⟨n - 1,by omega⟩
 have hsp':eK (n+1) least nest r.toks=eM (m0+1) least nest x1 r1.toks:=by rw [hsp,ht1,hm0]
 refine cF ?_
 refine fO (fun i:LpI=>i.r.toks.length) (aLj F w b r n least nest) (fun i=>⟨mkT [(0,vP b),(1,vI (least:Int)),(4,.ptr gz 0),(5,.ptr (gz+1) 0)],mkH [(gz,bK 51 5 (xA 0 0 0 [] none 0 0)),(gz+1,bK 51 5 (xA i.op i.ty i.bits i.nm i.a i.kids.length i.cap))],gz+2,[]⟩)
  ⟨r1,x1,op1,ty1,bits1,nm1,kids1,a1,cap1,m0⟩ ⟨ri1,he1_1,hx1,by rw [hn1.1,hn],hn1.2,hsp',by show m0+1≤n;omega,by show 10*r1.toks.length+8≤m0+1+least;rw [ht1];omega,by show wgt x1+r1.toks.length≤_;rw [ht1];exact hwt1⟩ (by kernel_rfl)
  (fun h=>gU _ [(0,vP b),(1,vI (least:Int)),(4,.ptr gz 0),(5,.ptr (gz+1) 0)] [(gz,bK 51 5 (xA 0 0 0 [] none 0 0)),(gz+1,bK 51 5 (xA op1 ty1 bits1 nm1 a1 kids1.length cap1))] (gz+2) (fun b hb=>hγ0 b (bC (bL _ 2) hb)) h) ?_
 rintro ⟨r0,e,op,ty,bits,nm,kids,ea,ecap,m⟩ B0 w0 ⟨ri0,he,hxe,hnn,hbb,hspec,hmn,hfu,hwt⟩ ih
 simp only at ri0 he hxe hnn hbb hspec hmn hfu hwt
 obtain ⟨a,n,cap,xs,hbk,hnr,hncap,hnb,hsl,hls,hFb,htb⟩:=ri0.rd
 have hat:=mH (F:=B0) hbk (ri0.old b ri0.hb) rfl
 refine rk ?_
 refine gV (.slice a n cap) (S:=Instr.loadAt 36 (.pointer (some ⟨b,0+0,none⟩))) (fun W hk=>ldB hat (by kernel_rfl) 0 rfl hk) (rs [24] 60 0 ?_)
 rcases ht:r0.toks with _ | ⟨t0,ts⟩
 ·
  have hn0:n=0:=by rw [hnr,ht];rfl
  refine zy 22 0 (n:Int) (by omega) ?_
  refine zy 23 0 (n:Int) (by omega) (rs [] 60 3 ?_)
  exact gR (xV op ty bits nm ea kids.length ecap) (fun W hk => .ret (r':=r0) (by rw [hspec];exact aDr (.inl ht)) ⟨by rw [hnn,hn],hbb⟩ ⟨_,rfl,fF ri0 he hk⟩ (ri0.to hk) (ri0.all hk))
 have hnr0:=hnr
 have hls0:=hls
 rw [ht] at hls hnr
 obtain ⟨c,xs2,rfl,hc,hls2⟩:=hls
 obtain ⟨n1,rfl⟩:∃ n1,n=n1+1:=⟨ts.length,by rw [hnr];rfl⟩
 have hcc:c=_:=hc
 subst hcc
 have hslB:=hsl.mono fun k g=>ri0.old k (ri0.hF k g)
 refine zx 22 0 ((n1+1:Nat):Int) (by omega) ?_
 refine zx 23 0 ((n1+1:Nat):Int) (by omega) (rk ?_)
 refine gV (.slice a (n1+1) cap) (S:=Instr.loadAt 36 (.pointer (some ⟨b,0+0,none⟩))) (fun W hk=>ldB hat (by kernel_rfl) 0 rfl hk) (rk ?_)
 refine gI 36 44 cap 0 hslB (Nat.succ_pos n1) (rk ?_)
 refine gL 3 (nI t0.kind) 0 0 hslB rfl (rs [32] 60 0 ?_)
 by_cases hk4:t0.kind=4
 rotate_left
 ·
  refine gF 31 t0.kind 4 hk4 (rs [] 60 3 ?_)
  exact gR (xV op ty bits nm ea kids.length ecap) (fun W hk => .ret (r':=r0) (by rw [hspec];exact aDr (.inr ⟨t0,ts,ht,fun h=>hk4 h.1⟩)) ⟨by rw [hnn,hn],hbb⟩ ⟨_,rfl,fF ri0 he hk⟩ (ri0.to hk) (ri0.all hk))
 refine gT 31 t0.kind 4 hk4 (rs [] 60 1 ?_)
 refine gV (.slice a (n1+1) cap) (S:=Instr.loadAt 36 (.pointer (some ⟨b,0+0,none⟩))) (fun W hk=>ldB hat (by kernel_rfl) 0 rfl hk) (rk ?_)
 refine gI 36 44 cap 0 hslB (Nat.succ_pos n1) (rk ?_)
 refine gL 9 (nT t0.text) 0 1 hslB rfl (rk ?_)
 obtain ⟨⟨sop,stg⟩,hsg⟩:∃ q,q=sgK t0.text:=⟨_,rfl⟩
 refine gX [nT t0.text] (.tuple #[n8 sop,nI stg]) (fun W hk=>by have:=aLk t0.text W;rw [← hsg] at this;exact this) (rk ?_)
 by_cases hkt:stg=(least:Int)
 rotate_left
 ·
  refine gK true (b:=(!intEq stg (least:Int))) (by rw [lC hkt];rfl) (rs [] 60 3 ?_)
  exact gR (xV op ty bits nm ea kids.length ecap) (fun W hk => .ret (r':=r0) (by rw [hspec];exact aDr (.inr ⟨t0,ts,ht,fun h=>hkt (by rw [← hsg] at h;exact h.2)⟩)) ⟨by rw [hnn,hn],hbb⟩ ⟨_,rfl,fF ri0 he hk⟩ (ri0.to hk) (ri0.all hk))
 refine gK false (b:=(!intEq stg (least:Int))) (by rw [nX hkt];rfl) (rk ?_)
 refine gX [nP b] (nI (cU r0)) (fun W hk=>rH b r0 W (fun k h=>aE (ri0.hF k h) (ri0.size hk)) (ri0.to hk)) (rk ?_)
 refine gV (.slice a (n1+1) cap) (S:=Instr.loadAt 36 (.pointer (some ⟨b,0+0,none⟩))) (fun W hk=>ldB hat (by kernel_rfl) 0 rfl hk) (rs [54] 60 0 ?_)
 refine gV (.slice (if cap=1 then a else a.map (·.add 5)) n1 (cap - 1)) (S:=Instr.sliceAt 36 (.slice a (n1+1) cap) (some (nI 1)) none none) (fun W _=>jM W) (rk ?_)
 refine eU 36 (.pointer (some ⟨b,0+0,none⟩)) (.slice (if cap=1 then a else a.map (·.add 5)) n1 (cap - 1)) (fun k=>k=b) (Pr:=fun _ W'=>W'.heap[b]?=some (.cells (dG (if cap=1 then a else a.map (·.add 5)) n1 (cap - 1) r0.adv).toArray 61 (0,0))) (by kernel_rfl) (by kernel_rfl) (fun k e=>e ▸ ri0.old b ri0.hb) (fun W hk=>sM (by rw [hk.block b (ri0.old b ri0.hb)];exact hbk) (by kernel_rfl) 0 (by simp [dG]) rfl rfl) ?_
 intro W w1 B1 hkx hcl1 _ hk1 hB1 hlt1
 have ri1:RI F w b r0.adv B1 w1:=ri0.adv hsl hcl1 hk1 hB1 hlt1 hFb ht hnr hncap hnb hls2 htb
 have he_1:=j9 ri0 he hk1 hB1
 have hta:r0.adv.toks=ts:=by unfold Rd.adv;rw [ht];rfl
 have hlen:r0.toks.length=ts.length+1:=by rw [ht];rfl
 have hnull:r0.adv.nest=(nest:Int):=hnn
 refine rk ?_
 refine aK6 [gz+1] (gz+2) (by kernel_rfl) ?_
 intro γ2 B2 w2 hle2 hγ2 hB2 hlt2 hk2 hLk2
 have ri2:RI F w b r0.adv B2 w2:=ri1.grow hk2 hB2 hlt2
 have hL2:∀ q,b6 q [gz+1]=true→∃ p,γ2 q=some p∧(B2 p.1∧¬ p.1=b):=fun q hq=>let ⟨p,h1,h2,h3⟩:=hLk2 q hq;⟨p,h1,h2,fun e=>h3 (e ▸ ri1.old b ri1.hb)⟩
 have hLb:∀ q,b6 q [gz+1]=true→∃ p,γ2 q=some p∧¬ p.1=b:=fun q hq=>let ⟨p,h1,h2,h3⟩:=hL2 q hq;⟨p,h1,h3⟩
 obtain ⟨lk,hlk,hlk2,hlk1⟩:=hLk2 (gz+1) (by kernel_rfl)
 obtain ⟨Bs,hBs⟩:∃ Bs:Nat→Prop,Bs=fun k=>B2 k∧¬ k=b:=⟨_,rfl⟩
 have hS2:∀ W,Keep B2 w2 W→Keep Bs w2 W:=fun W hk=>hk.mono fun k g=>by rw [hBs] at g;exact g.1
 have hL2':∀ q,b6 q [gz+1]=true→∃ p,γ2 q=some p∧Bs p.1:=by rw [hBs];exact hL2
 refine iT (Keep Bs w2) cP (.take 0 (.take 1 (.take 2 (.take 3 (.take 4 (.take 5 (.run 6 (.run 7 (.run 8 .done))))))))) 9 (by kernel_rfl) ?_
 refine fI [gz+1] 6 (Bs:=Bs) (ws:=w2) (by kernel_rfl) hS2 hL2' ?_
 refine gS 62 (x:=nI (cA .i64 ((least:Int)+1))) (nI ((least+1:Nat):Int)) (by rw [cR (by omega) (by omega)];rfl) ?_
 refine pR (Keep Bs w2) hS2 ?_
 refine l6 [gz+1] (bV _ _) [nP b,nI ((least+1:Nat):Int)] ri2 (by kernel_rfl) (by kernel_rfl) (by kernel_rfl) (by kernel_rfl) hLb (by kernel_rfl) (fun W hF hr hk=>hb m (by omega) b r0.adv (least+1) nest W hF hr hnull hn32 (by omega) (by rw [hta];omega)) (fun ho W e p he hk => .pan (by rw [hspec];exact aRt ht hk4 (by rw [← hsg];exact hkt) (by rw [← hta];exact ho)) e p he hk) ?_
 rintro x3 ts3 r3 ho3 ht3 hn3 W3 v3 w3 B3 hv3 hkW3 ri3 hk3 hB3 hN3
 obtain ⟨op3,ty3,bits3,nm3,kids3,a3,cap3,xs3,hx3,rfl,hq3⟩:=CopyPr.opened hv3
 rw [hta] at ho3
 have hwt3:=(o0 m).1 _ _ _ _ _ ho3
 have hp3:0<wgt x3:=fS x3
 have hml0:=ri0.len
 have hgo:=aUh (e:=e) ht hk4 hsg hkt ho3
 have hS3:∀ W,Keep B3 w3 W→Keep Bs w2 W:=fun W hk=>(hk3.mono fun k g=>by rw [hBs] at g;exact g).trans (hk.mono fun k g=>by rw [hBs] at g;exact hB3 k g.1)
 have hlt2':lk.1<W3.heap.size:=aE (hlt2 _ hlk2) hkW3.size
 have hG3:∀ k,dC W3 w3 k→Nw w B3 k∧¬ k=lk.1:=fun k g=>⟨hN3 k g,fun e=>by have:=g.1;omega⟩
 have hx3G:ExAt (fun k=>Nw w B3 k∧¬ k=lk.1) w3 x3 _:=hq3.keep (.refl _ _) hG3
 have he3G:ExAt (fun k=>Nw w B3 k∧¬ k=lk.1) w3 e _:=he_1.keep ((hk2.mono fun k g=>g.1).trans (hk3.mono fun k g=>⟨hB2 k g.1,fun e=>by have:=ri2.hb;have:=g.2;omega⟩)) (fun k g=>⟨⟨hB3 k (hB2 k g.1),g.2⟩,fun e=>hlk1 (e ▸ g.1)⟩)
 refine rk ?_
 refine pR (Keep Bs w2) hS3 ?_
 refine rk ?_
 refine lP 64 (gz+2) 51 5 2 [n8 op,n8 ty,n6 bits,nT nm,.slice ea kids.length ecap,n8 op3,n8 ty3,n6 bits3,nT nm3,.slice a3 kids3.length cap3] (by kernel_rfl) (by kernel_rfl) rfl (fun q4 qc4 w4 B4 hk4' hB4 hlt4 hnew4 hsl4=>?_)
 have ri4:RI F w b r3 B4 w4:=ri3.grow hk4' hB4 hlt4
 have hsn4:=wS ri3 hnew4 hsl4
 have hS4:∀ W,Keep B4 w4 W→Keep Bs w2 W:=fun W hk=>hS3 W (hk4'.trans (hk.mono hB4))
 have hG4:∀ k,Nw w B3 k∧¬ k=lk.1→Nw w B4 k∧¬ k=lk.1:=fun k g=>⟨⟨hB4 k g.1.1,g.1.2⟩,g.2⟩
 have hx4G:=hx3G.keep (hk4'.mono fun k g=>g.1.1) hG4
 have he4G:=he3G.keep (hk4'.mono fun k g=>g.1.1) hG4
 have hks4:=kids2 he4G hx4G
 have hql:¬ q4=lk.1:=fun e=>hnew4 (e ▸ hB3 _ hlk2)
 refine pR (Keep Bs w2) hS4 ?_
 refine l6 [gz+1] (bV _ _) [n8 sop,nI (cU r0),.slice (some ⟨q4,0,none⟩) 2 qc4] ri4 (by kernel_rfl) (by kernel_rfl) (by kernel_rfl) (by kernel_rfl) hLb (by kernel_rfl) (fun W hF hr hk=>tH b r3 sop _ _ _ _ [n8 op,n8 ty,n6 bits,nT nm,.slice ea kids.length ecap,n8 op3,n8 ty3,n6 bits3,nT nm3,.slice a3 kids3.length cap3] [e,x3] W hF hr rfl ((hsn4.keep (hk.mono fun k g=>g.1)).mono fun k g=>aE (hlt4 k g.1) hk.size) (hks4.keep (hk.mono fun k g=>g.1.1) fun k g=>aE (hlt4 k g.1.1) hk.size) (by simp only [wgt,cL];omega)) (fun ho W e p he hk => .pan (by rw [hspec,hgo,Option.map_eq_none_iff.1 ho]) e p he hk) ?_
 rintro x5 ts5 r5 ho5 ht5 hn5 W5 v5 w5 B5 hv5 hkW5 ri5 hk5 hB5 hN5
 obtain ⟨y5,hy5,e5⟩:=aC ho5
 cases e5
 obtain rfl:=(eF hy5).1
 subst hv5
 have hB25:∀ k,B2 k→B4 k:=fun k g=>hB4 k (hB3 k g)
 have hS5:∀ W,Keep B5 w5 W→Keep Bs w2 W:=fun W hk=>(hS4 w4 (.refl _ _)).trans ((hk5.mono fun k g=>by rw [hBs] at g;exact ⟨hB25 k g.1,g.2⟩).trans (hk.mono fun k g=>by rw [hBs] at g;exact hB5 k (hB25 k g.1)))
 refine rk ?_
 refine lO (by kernel_rfl) ?_ (Keep Bs w2) (by kernel_rfl) hS5
 refine lL [gz+1] (by kernel_rfl) (fun q hq=>let ⟨p,h1,_⟩:=hLk2 q hq;⟨p,h1⟩) ?_
 intro B6 h65 h56
 have hq6:∀ k,B5 k→¬ k=lk.1→B6 k:=fun k g1 g2=>h56 k g1 (fun q p hq hp e=>g2 (by
  have hq:=hasNat_iff.1 hq
  rw [List.mem_singleton] at hq
  rw [hq,hlk] at hp
  injection hp with hp
  rw [hp,e]))
 have h16:∀ k,B1 k→B6 k:=fun k g=>hq6 k (hB5 k (hB25 k (hB2 k g))) (fun e=>hlk1 (e ▸ g))
 have ri6:RI F w b r5 B6 w5:=⟨ri5.rd,ri5.keep,fun k g=>h16 k (ri1.old k g),fun k g=>ri5.lt k (h65 k g),ri5.hF,ri5.hb⟩
 have hG6:∀ k,Nw w B4 k∧¬ k=lk.1→Nw w B6 k:=fun k g=>⟨hq6 k (hB5 k g.1.1) g.2,g.1.2⟩
 have hkG:Keep (fun k=>Nw w B4 k∧¬ k=lk.1) w4 w5:=(jC ri4 hk5).mono fun k g=>g.1
 have hks6:=hks4.keep hkG hG6
 have hsn6:SlAt (Nw w B6) w5 (some ⟨q4,0,none⟩) 2 5 _:=⟨hsn4.len,(hsn4.keep (jC ri4 hk5)).place.imp id fun ⟨g1,g2,g3⟩=>⟨g1,hG6 _ ⟨g2,hql⟩,g3⟩⟩
 have hm6:ExAt (Nw w B6) w5 (.mk sop 0 0 [] [e,x3]) _:=aB3 (cap:=qc4) sop hsn6 hks6 rfl
 refine rs [69] 60 0 ?_
 obtain ⟨m1,hm1⟩:∃ m1,m=m1+1:=⟨m - 1,by omega⟩
 rw [hy5] at hgo
 have e5:r5.toks=ts3:=by rw [ht5,ht3]
 have hb5:r5.blocks=r.blocks:=by rw [hn5.2,hn3.2];exact hbb
 have hn5n:r5.nest=(nest:Int):=by rw [hn5.1,hn3.1];exact hnull
 have hgn:∀ q,gz+2≤q→γ2 q=none:=fun q hq=>by
  rw [hγ2 q (by
   cases hh:b6 q [gz+1] with
   | false=>rfl
   | true=>have:=hasNat_iff.1 hh;rw [List.mem_singleton] at this;omega)]
  exact hγ0 q (bC (bL _ 2) hq)
 by_cases h5:5≤sop
 rotate_left
 ·
  refine gS 67 (x := .bool (!intLt sop 5)) (.bool false) (by rw [qC (by omega)];rfl) ?_
  refine gS 68 (x := .bool (!intLt sop 5)) (.bool false) (by rw [qC (by omega)];rfl) (rs [] 60 2 ?_)
  have hI:aLj F w b r n least nest ⟨r5,.mk sop 0 0 [] [e,x3],sop,0,0,[],[e,x3],some ⟨q4,0,none⟩,qc4,m1⟩ B6 w5:=by
   refine ⟨ri6,hm6,rfl,hn5n,hb5,?_,by show m1+1≤n;omega,by show 10*r5.toks.length+8≤m1+1+least;rw [e5];omega,?_⟩
   · show _=eM (m1+1) least nest (.mk sop 0 0 [] [e,x3]) r5.toks
     rw [hspec,hgo,e5,← hm1]
     simp only
     rw [if_neg (by omega)]
   · show wgt (.mk sop 0 0 [] [e,x3])+r5.toks.length≤r.toks.length
     rw [e5]
     simp only [wgt,cL]
     omega
  exact gU _ [(0,vP b),(1,vI (least:Int)),(4,.ptr gz 0),(5,.ptr (gz+1) 0)] [(gz,bK 51 5 (xA 0 0 0 [] none 0 0)),(gz+1,bK 51 5 (xA sop 0 0 [] (some ⟨q4,0,none⟩) 2 qc4))] (gz+2) hgn ((ih _ B6 w5 hI (by show r5.toks.length<r0.toks.length;rw [e5];omega)).up hle2)
 refine gS 67 (x := .bool (!intLt sop 5)) (.bool true) (by rw [rE (by omega)];rfl) ?_
 refine gS 68 (x := .bool (!intLt sop 5)) (.bool true) (by rw [rE (by omega)];rfl) (rs [71] 60 0 ?_)
 by_cases h10:sop≤10
 rotate_left
 ·
  refine gS 70 (x := .bool (!intLt 10 sop)) (.bool false) (by rw [qC (by omega)];rfl) (rs [] 60 2 ?_)
  have hI:aLj F w b r n least nest ⟨r5,.mk sop 0 0 [] [e,x3],sop,0,0,[],[e,x3],some ⟨q4,0,none⟩,qc4,m1⟩ B6 w5:=by
   refine ⟨ri6,hm6,rfl,hn5n,hb5,?_,by show m1+1≤n;omega,by show 10*r5.toks.length+8≤m1+1+least;rw [e5];omega,?_⟩
   · show _=eM (m1+1) least nest (.mk sop 0 0 [] [e,x3]) r5.toks
     rw [hspec,hgo,e5,← hm1]
     simp only
     rw [if_neg (by omega)]
   · show wgt (.mk sop 0 0 [] [e,x3])+r5.toks.length≤r.toks.length
     rw [e5]
     simp only [wgt,cL]
     omega
  exact gU _ [(0,vP b),(1,vI (least:Int)),(4,.ptr gz 0),(5,.ptr (gz+1) 0)] [(gz,bK 51 5 (xA 0 0 0 [] none 0 0)),(gz+1,bK 51 5 (xA sop 0 0 [] (some ⟨q4,0,none⟩) 2 qc4))] (gz+2) hgn ((ih _ B6 w5 hI (by show r5.toks.length<r0.toks.length;rw [e5];omega)).up hle2)
 refine gS 70 (x := .bool (!intLt 10 sop)) (.bool true) (by rw [rE (by omega)];rfl) (rs [] 60 3 ?_)
 exact gR (xV sop 0 0 [] (some ⟨q4,0,none⟩) 2 qc4) (fun W hk => .ret (r':=r5) (by rw [hspec,hgo,e5];simp only;rw [if_pos ⟨h5,h10⟩]) ⟨by rw [hn5n,hn],hb5⟩ ⟨_,rfl,fF ri6 hm6 hk⟩ (ri6.to hk) (ri6.all hk))
end
section
set_option maxRecDepth 100000
theorem aOr:∀ n:Nat,(∀ m,m≤n→aL7 m)∧aL1 n∧aPn n∧aMb n
 | 0=>⟨fun m hm b r least nest F w hF h hn h1 h2 h3=>absurd h3 (by omega),fun b r nest F w hF h hn h1 h3=>absurd h3 (by omega),fun b r nest F w hF h hn h1 h3=>absurd h3 (by omega),fun b r nest F w hF h hn h0 h1 h3=>absurd h3 (by omega)⟩
 | n+1=>by
   obtain ⟨hb,hu,hp,hc⟩:=aOr n
   refine ⟨fun m hm=>?_,aPx hu hp,aQi hc,aPp (hb n (aH _))⟩
   rcases aY m (n+1) with h | h
   · exact hb m (by omega)
   · obtain rfl:m=n+1:=by omega
     exact aP5 hb hu
def StPr (s:St) (w:World) (v:Value) (w':World):Prop:=∃ ds:List Value,v = .agg ds.toArray∧StAt (dC w w') w' s ds
theorem aCa {F:Nat→Prop} {w:World} (kind:Int) (nm:List UInt8) {e:Ex} {ec:List Value} (h:ExAt F w e ec):StAt F w (.mk kind nm e [] []) (.int .i64 kind :: .string (str nm)::(ec++[.slice none 0 0,.slice none 0 0])):=by
 simp only [StAt]
 exact ⟨ec,none,0,[],none,0,[],rfl,h,⟨rfl,.inl rfl⟩,rfl,⟨rfl,.inl rfl⟩,rfl⟩
open Go.Sy
theorem uP (b:Nat) (r:Rd) {F:Nat→Prop} (w:World) (hF:∀ k,F k→k<w.heap.size) (h:RdAt F w b r):Calls Tryz.prog 67 #[nP b] w (Reads F b (fun r'=>r'.blocks=r.blocks) (whK r.toks) CopyPr w):=by
 have ri0:=RI.init hF h
 refine eN [nP b] Tryz.func67 (fun γ0 hγ0=>?_)
 refine rk ?_
 refine nY (ty:=3) 2 (nI 0) ({ r with nest:=0 }) ri0 (by kernel_rfl) (by kernel_rfl) (by kernel_rfl) (by decide) (fun a n cap=>rfl) rfl rfl rfl ?_
 intro w1 B1 ri1 hk1 hB1
 obtain ⟨r1,hr1⟩:∃ q:Rd,q={ r with nest:=0 }:=⟨_,rfl⟩
 rw [← hr1] at ri1
 have ht1:r1.toks=r.toks:=by rw [hr1]
 refine rk ?_
 refine bU (bV _ _) [nP b,nI ((0:Nat):Int)] ri1 (by kernel_rfl) (by kernel_rfl) (by kernel_rfl) (by kernel_rfl) (by kernel_rfl) (fun W hF hr hk=>((aOr (10*r1.toks.length+8)).1 _ (aH _)) b r1 0 0 W hF hr (by rw [hr1];rfl) (by omega) (by omega) (by omega)) (fun ho W e p he hk => .pan (by unfold whK;rw [← ht1];exact ho) e p he hk) ?_
 rintro x2 ts2 r2 ho2 ht2 hn2 W v2 w2 B2 hv2 hkW2 ri2 hk2 hB2 hN2
 obtain ⟨op2,ty2,bits2,nm2,kids2,a2,cap2,xs2,hx2,rfl,hq2⟩:=CopyPr.opened hv2
 have he2_2:=iI hN2 hq2
 refine rs [] 60 2 ?_
 exact gR (xV op2 ty2 bits2 nm2 a2 kids2.length cap2) (fun W hk => .ret (r':=r2) (by unfold whK;rw [← ht1,ho2,ht2]) (by rw [hn2.2,hr1]) (⟨_,rfl,fF ri2 he2_2 hk⟩) (ri2.to hk) (ri2.all hk))
theorem aO9 (b:Nat) (r:Rd) {F:Nat→Prop} (w:World) (hF:∀ k,F k→k<w.heap.size) (h:RdAt F w b r):Calls Tryz.prog 119 #[nP b] w (Reads F b (fun r'=>r'.blocks=r.blocks) (fG r.toks) StPr w):=by
 have ri0:=RI.init hF h
 refine eN [nP b] Tryz.func119 (fun γ0 hγ0=>?_)
 refine rk ?_
 rcases h_lock:bX [108,111,99,107] r.toks with _ | us
 rotate_left
 ·
  refine bU (bV _ _) [nP b,nT [108,111,99,107]] ri0 (by kernel_rfl) (by kernel_rfl) (by kernel_rfl) (by kernel_rfl) (by kernel_rfl) (fun W hF hr hk=>dV b _ [108,111,99,107] (id h_lock) W hF hr) (fun ho W e p he hk => .pan (by cases ho) e p he hk) ?_
  rintro x1 ts1 r1 ho1 ht1 hn1 W v1 w1 B1 hv1 hkW1 ri1 hk1 hB1 hN1
  cases ho1
  subst hv1
  refine rk ?_
  refine gK true (b:=true) (rfl) (rk ?_)
  refine bU (bV _ _) [nP b] ri1 (by kernel_rfl) (by kernel_rfl) (by kernel_rfl) (by kernel_rfl) (by kernel_rfl) (fun W hF hr hk=>nN b r1 W hF hr) (fun ho W e p he hk => .pan (by simp only [fG,h_lock];rw [← ht1,ho];rfl) e p he hk) ?_
  rintro x2 ts2 r2 ho2 ht2 hn2 W v2 w2 B2 hv2 hkW2 ri2 hk2 hB2 hN2
  subst hv2
  refine rs [] 60 2 ?_
  exact gR (yV 2 x2 0 0 0 [] none 0 0 none 0 0 none 0 0) (fun W hk => .ret (r':=r2) (by simp only [fG,h_lock];rw [← ht1,ho2,ht2];rfl) (by rw [hn2.2,hn1.2]) (⟨_,rfl,aCa 2 x2 (tD 0 0 0 [])⟩) (ri2.to hk) (ri2.all hk))
 refine bU (bV _ _) [nP b,nT [108,111,99,107]] ri0 (by kernel_rfl) (by kernel_rfl) (by kernel_rfl) (by kernel_rfl) (by kernel_rfl) (fun W hF hr hk=>dU b _ [108,111,99,107] (id h_lock) W hF hr) (fun ho W e p he hk => .pan (by cases ho) e p he hk) ?_
 rintro x1 ts1 r1 ho1 ht1 hn1 W v1 w1 B1 hv1 hkW1 ri1 hk1 hB1 hN1
 cases ho1
 subst hv1
 refine rk ?_
 refine gK false (b:=false) (rfl) (rk ?_)
 rcases h_unlock:bX [117,110,108,111,99,107] r.toks with _ | us
 rotate_left
 ·
  refine bU (bV _ _) [nP b,nT [117,110,108,111,99,107]] ri1 (by kernel_rfl) (by kernel_rfl) (by kernel_rfl) (by kernel_rfl) (by kernel_rfl) (fun W hF hr hk=>dV b _ [117,110,108,111,99,107] (ht1 ▸ h_unlock) W hF hr) (fun ho W e p he hk => .pan (by cases ho) e p he hk) ?_
  rintro x2 ts2 r2 ho2 ht2 hn2 W v2 w2 B2 hv2 hkW2 ri2 hk2 hB2 hN2
  cases ho2
  subst hv2
  refine rk ?_
  refine gK true (b:=true) (rfl) (rk ?_)
  refine bU (bV _ _) [nP b] ri2 (by kernel_rfl) (by kernel_rfl) (by kernel_rfl) (by kernel_rfl) (by kernel_rfl) (fun W hF hr hk=>nN b r2 W hF hr) (fun ho W e p he hk => .pan (by simp only [fG,h_lock,h_unlock];rw [← ht2,ho];rfl) e p he hk) ?_
  rintro x3 ts3 r3 ho3 ht3 hn3 W v3 w3 B3 hv3 hkW3 ri3 hk3 hB3 hN3
  subst hv3
  refine rs [] 60 2 ?_
  exact gR (yV 3 x3 0 0 0 [] none 0 0 none 0 0 none 0 0) (fun W hk => .ret (r':=r3) (by simp only [fG,h_lock,h_unlock];rw [← ht2,ho3,ht3];rfl) (by rw [hn3.2,hn2.2,hn1.2]) (⟨_,rfl,aCa 3 x3 (tD 0 0 0 [])⟩) (ri3.to hk) (ri3.all hk))
 refine bU (bV _ _) [nP b,nT [117,110,108,111,99,107]] ri1 (by kernel_rfl) (by kernel_rfl) (by kernel_rfl) (by kernel_rfl) (by kernel_rfl) (fun W hF hr hk=>dU b _ [117,110,108,111,99,107] (ht1 ▸ h_unlock) W hF hr) (fun ho W e p he hk => .pan (by cases ho) e p he hk) ?_
 rintro x2 ts2 r2 ho2 ht2 hn2 W v2 w2 B2 hv2 hkW2 ri2 hk2 hB2 hN2
 cases ho2
 subst hv2
 refine rk ?_
 rw [ht1] at ht2
 refine gK false (b:=false) (rfl) (rk ?_)
 rcases h_assert:bX [97,115,115,101,114,116] r.toks with _ | us
 rotate_left
 ·
  refine bU (bV _ _) [nP b,nT [97,115,115,101,114,116]] ri2 (by kernel_rfl) (by kernel_rfl) (by kernel_rfl) (by kernel_rfl) (by kernel_rfl) (fun W hF hr hk=>dV b _ [97,115,115,101,114,116] (ht2 ▸ h_assert) W hF hr) (fun ho W e p he hk => .pan (by cases ho) e p he hk) ?_
  rintro x3 ts3 r3 ho3 ht3 hn3 W v3 w3 B3 hv3 hkW3 ri3 hk3 hB3 hN3
  cases ho3
  subst hv3
  refine rk ?_
  refine gK true (b:=true) (rfl) (rk ?_)
  refine bU (bV _ _) [nP b] ri3 (by kernel_rfl) (by kernel_rfl) (by kernel_rfl) (by kernel_rfl) (by kernel_rfl) (fun W hF hr hk=>uP b r3 W hF hr) (fun ho W e p he hk => .pan (by simp only [fG,h_lock,h_unlock,h_assert];rw [← ht3,ho];rfl) e p he hk) ?_
  rintro x4 ts4 r4 ho4 ht4 hn4 W v4 w4 B4 hv4 hkW4 ri4 hk4 hB4 hN4
  obtain ⟨op4,ty4,bits4,nm4,kids4,a4,cap4,xs4,hx4,rfl,hq4⟩:=CopyPr.opened hv4
  have he4_4:=iI hN4 hq4
  refine rs [] 60 2 ?_
  exact gR (yV 4 [] op4 ty4 bits4 nm4 a4 kids4.length cap4 none 0 0 none 0 0) (fun W hk => .ret (r':=r4) (by simp only [fG,h_lock,h_unlock,h_assert];rw [← ht3,ho4,ht4];rfl) (by rw [hn4,hn3.2,hn2.2,hn1.2]) (⟨_,rfl,aCa 4 [] (fF ri4 he4_4 hk)⟩) (ri4.to hk) (ri4.all hk))
 refine bU (bV _ _) [nP b,nT [97,115,115,101,114,116]] ri2 (by kernel_rfl) (by kernel_rfl) (by kernel_rfl) (by kernel_rfl) (by kernel_rfl) (fun W hF hr hk=>dU b _ [97,115,115,101,114,116] (ht2 ▸ h_assert) W hF hr) (fun ho W e p he hk => .pan (by cases ho) e p he hk) ?_
 rintro x3 ts3 r3 ho3 ht3 hn3 W v3 w3 B3 hv3 hkW3 ri3 hk3 hB3 hN3
 cases ho3
 subst hv3
 refine rk ?_
 rw [ht2] at ht3
 refine gK false (b:=false) (rfl) (rk ?_)
 rcases h_skip:bX [115,107,105,112] r.toks with _ | us
 rotate_left
 ·
  refine bU (bV _ _) [nP b,nT [115,107,105,112]] ri3 (by kernel_rfl) (by kernel_rfl) (by kernel_rfl) (by kernel_rfl) (by kernel_rfl) (fun W hF hr hk=>dV b _ [115,107,105,112] (ht3 ▸ h_skip) W hF hr) (fun ho W e p he hk => .pan (by cases ho) e p he hk) ?_
  rintro x4 ts4 r4 ho4 ht4 hn4 W v4 w4 B4 hv4 hkW4 ri4 hk4 hB4 hN4
  cases ho4
  subst hv4
  refine rk ?_
  refine gK true (b:=true) (rfl) (rs [] 60 2 ?_)
  exact gR (yV 7 [] 0 0 0 [] none 0 0 none 0 0 none 0 0) (fun W hk => .ret (r':=r4) (by simp only [fG,h_lock,h_unlock,h_assert,h_skip];rw [ht4];rfl) (by rw [hn4.2,hn3.2,hn2.2,hn1.2]) (⟨_,rfl,aCa 7 [] (tD 0 0 0 [])⟩) (ri4.to hk) (ri4.all hk))
 refine bU (bV _ _) [nP b,nT [115,107,105,112]] ri3 (by kernel_rfl) (by kernel_rfl) (by kernel_rfl) (by kernel_rfl) (by kernel_rfl) (fun W hF hr hk=>dU b _ [115,107,105,112] (ht3 ▸ h_skip) W hF hr) (fun ho W e p he hk => .pan (by cases ho) e p he hk) ?_
 rintro x4 ts4 r4 ho4 ht4 hn4 W v4 w4 B4 hv4 hkW4 ri4 hk4 hB4 hN4
 cases ho4
 subst hv4
 refine rk ?_
 rw [ht3] at ht4
 refine gK false (b:=false) (rfl) (rk ?_)
 refine bU (bV _ _) [nP b] ri4 (by kernel_rfl) (by kernel_rfl) (by kernel_rfl) (by kernel_rfl) (by kernel_rfl) (fun W hF hr hk=>nN b r4 W hF hr) (fun ho W e p he hk => .pan (by simp only [fG,h_lock,h_unlock,h_assert,h_skip];rw [← ht4,ho]) e p he hk) ?_
 rintro x5 ts5 r5 ho5 ht5 hn5 W v5 w5 B5 hv5 hkW5 ri5 hk5 hB5 hN5
 subst hv5
 refine rk ?_
 refine bU (bV _ _) [nP b,nT [61]] ri5 (by kernel_rfl) (by kernel_rfl) (by kernel_rfl) (by kernel_rfl) (by kernel_rfl) (fun W hF hr hk=>e8 b r5 [61] W hF hr) (fun ho W e p he hk => .pan (by simp only [fG,h_lock,h_unlock,h_assert,h_skip];rw [← ht4,ho5];simp only;rw [← ht5];unfold dD at ho;rw [aU] at ho;rw [ho]) e p he hk) ?_
 rintro x6 ts6 r6 ho6 ht6 hn6 W v6 w6 B6 hv6 hkW6 ri6 hk6 hB6 hN6
 unfold dD at ho6
 rw [ht5] at ho6
 obtain ⟨vs,hvs,e⟩:=aC ho6
 cases e
 subst hv6
 refine rk ?_
 refine bU (bV _ _) [nP b] ri6 (by kernel_rfl) (by kernel_rfl) (by kernel_rfl) (by kernel_rfl) (by kernel_rfl) (fun W hF hr hk=>uP b r6 W hF hr) (fun ho W e p he hk => .pan (by simp only [fG,h_lock,h_unlock,h_assert,h_skip];rw [← ht4,ho5];simp only [hvs];rw [← ht6,ho];rfl) e p he hk) ?_
 rintro x7 ts7 r7 ho7 ht7 hn7 W v7 w7 B7 hv7 hkW7 ri7 hk7 hB7 hN7
 obtain ⟨op7,ty7,bits7,nm7,kids7,a7,cap7,xs7,hx7,rfl,hq7⟩:=CopyPr.opened hv7
 have he7_7:=iI hN7 hq7
 refine rs [] 60 2 ?_
 exact gR (yV 1 x5 op7 ty7 bits7 nm7 a7 kids7.length cap7 none 0 0 none 0 0) (fun W hk => .ret (r':=r7) (by simp only [fG,h_lock,h_unlock,h_assert,h_skip];rw [← ht4,ho5];simp only [hvs];rw [← ht6,ho7,ht7];rfl) (by rw [hn7,hn6.2,hn5.2,hn4.2,hn3.2,hn2.2,hn1.2]) (⟨_,rfl,aCa 1 x5 (fF ri7 he7_7 hk)⟩) (ri7.to hk) (ri7.all hk))
end
section
open Go.Sy in
set_option maxRecDepth 100000 in
theorem aAh (b:Nat) (r:Rd) (t:Int) {F:Nat→Prop} (w:World) (hF:∀ k,F k→k<w.heap.size) (h:RdAt F w b r):Calls Tryz.prog 71 #[nP b,n8 t] w (Reads F b (Sm r) (fQ t r.toks) (fun x _ v _=>v = .agg #[n8 t,n6 x]) w):=by
 have ri0:=RI.init hF h
 refine eN [nP b,n8 t] Tryz.func71 (fun γ0 hγ0=>?_)
 refine rk ?_
 refine bU (bV _ _) [nP b] ri0 (by kernel_rfl) (by kernel_rfl) (by kernel_rfl) (by kernel_rfl) (by kernel_rfl) (fun W hF hr hk=>kB b r W hF hr) (fun ho W e p he hk => .pan (by cases ho) e p he hk) ?_
 rintro x1 ts1 r1 ho1 ht1 hn1 W v1 w1 B1 hv1 hkW1 ri1 hk1 hB1 hN1
 cases ho1
 subst hv1
 refine rk ?_
 rcases hM:bX [45] r.toks with _ | us
 ·
  refine bU (bV _ _) [nP b,nT [45]] ri1 (by kernel_rfl) (by kernel_rfl) (by kernel_rfl) (by kernel_rfl) (by kernel_rfl) (fun W hF hr hk=>dU b _ [45] (ht1 ▸ hM) W hF hr) (fun ho W e p he hk => .pan (by cases ho) e p he hk) ?_
  rintro x2 ts2 r2 ho2 ht2 hn2 W v2 w2 B2 hv2 hkW2 ri2 hk2 hB2 hN2
  cases ho2
  subst hv2
  rw [ht1] at ht2
  refine rs [] 60 1 ?_
  rcases hL:dN r.toks with _ | ⟨⟨ty,bits⟩,vs⟩
  ·
   refine bU (bV _ _) [nP b] ri2 (by kernel_rfl) (by kernel_rfl) (by kernel_rfl) (by kernel_rfl) (by kernel_rfl) (fun W hF hr hk=>aK3 b r2 (ht2 ▸ hL) W hF hr) (fun ho W e p he hk => .pan (by cases ho) e p he hk) ?_
   rintro x3 ts3 r3 ho3 ht3 hn3 W v3 w3 B3 hv3 hkW3 ri3 hk3 hB3 hN3
   cases ho3
   subst hv3
   refine rk ?_
   refine gK true (b:=true) (rfl) (rk ?_)
   refine bU (bV _ _) [nP b] ri3 (by kernel_rfl) (by kernel_rfl) (by kernel_rfl) (by kernel_rfl) (by kernel_rfl) (fun W hF hr hk=>kB b _ W hF hr) (fun ho W e p he hk => .pan (by cases ho) e p he hk) ?_
   rintro x4 ts4 r4 ho4 ht4 hn4 W v4 w4 B4 hv4 hkW4 ri4 hk4 hB4 hN4
   cases ho4
   subst hv4
   refine rk ?_
   refine bU (bV _ _) [nI 4,nI (cU r3)] ri4 (by kernel_rfl) (by kernel_rfl) (by kernel_rfl) (by kernel_rfl) (by kernel_rfl) (fun W hF hr hk=>jJ b _ 4 _ (by decide) W hF hr) (fun ho W e p he hk => .pan (by simp only [fQ,hM];rw [hL]) e p he hk) ?_
   rintro x5 ts5 r5 ho5 ht5 hn5 W v5 w5 B5 hv5 hkW5 ri5 hk5 hB5 hN5
   cases ho5
  refine bU (bV _ _) [nP b] ri2 (by kernel_rfl) (by kernel_rfl) (by kernel_rfl) (by kernel_rfl) (by kernel_rfl) (fun W hF hr hk=>aKr b r2 (ht2 ▸ hL) W hF hr) (fun ho W e p he hk => .pan (by cases ho) e p he hk) ?_
  rintro x3 ts3 r3 ho3 ht3 hn3 W v3 w3 B3 hv3 hkW3 ri3 hk3 hB3 hN3
  cases ho3
  subst hv3
  refine rk ?_
  refine gK false (b:=false) (rfl) (rk ?_)
  by_cases hty:ty=t
  rotate_left
  ·
   refine gK true (b:=(!intEq ty t)) (by rw [lC hty];rfl) (rk ?_)
   refine bU (bV _ _) [nI 9,nI (cU r)] ri3 (by kernel_rfl) (by kernel_rfl) (by kernel_rfl) (by kernel_rfl) (by kernel_rfl) (fun W hF hr hk=>jJ b _ 9 _ (by decide) W hF hr) (fun ho W e p he hk => .pan (by simp only [fQ,hM];rw [hL];simp only;rw [if_neg hty]) e p he hk) ?_
   rintro x4 ts4 r4 ho4 ht4 hn4 W v4 w4 B4 hv4 hkW4 ri4 hk4 hB4 hN4
   cases ho4
  refine gK false (b:=(!intEq ty t)) (by rw [nX hty];rfl) (rs [] 60 4 ?_)
  exact gR (.agg #[n8 ty,n6 bits]) (fun W hk => .ret (r':=r3) (by simp only [fQ,hM];rw [hL];simp only;rw [if_pos hty,ht3]) (⟨by rw [hn3.1,hn2.1,hn1.1],by rw [hn3.2,hn2.2,hn1.2]⟩) (by rw [hty]) (ri3.to hk) (ri3.all hk))
 refine bU (bV _ _) [nP b,nT [45]] ri1 (by kernel_rfl) (by kernel_rfl) (by kernel_rfl) (by kernel_rfl) (by kernel_rfl) (fun W hF hr hk=>dV b _ [45] (ht1 ▸ hM) W hF hr) (fun ho W e p he hk => .pan (by cases ho) e p he hk) ?_
 rintro x2 ts2 r2 ho2 ht2 hn2 W v2 w2 B2 hv2 hkW2 ri2 hk2 hB2 hN2
 cases ho2
 subst hv2
 refine rk ?_
 rcases h_nan:bX [110,97,110] us with _ | u_nan
 rotate_left
 ·
  refine bU (bV _ _) [nP b,nT [110,97,110]] ri2 (by kernel_rfl) (by kernel_rfl) (by kernel_rfl) (by kernel_rfl) (by kernel_rfl) (fun W hF hr hk=>sI b _ [110,97,110] true (by rw [ht2,h_nan];rfl) W hF hr) (fun ho W e p he hk => .pan (by cases ho) e p he hk) ?_
  rintro x3 ts3 r3 ho3 ht3 hn3 W v3 w3 B3 hv3 hkW3 ri3 hk3 hB3 hN3
  cases ho3
  subst hv3
  refine rs [] 60 1 ?_
  refine bU (bV _ _) [nP b] ri3 (by kernel_rfl) (by kernel_rfl) (by kernel_rfl) (by kernel_rfl) (by kernel_rfl) (fun W hF hr hk=>kB b _ W hF hr) (fun ho W e p he hk => .pan (by cases ho) e p he hk) ?_
  rintro x4 ts4 r4 ho4 ht4 hn4 W v4 w4 B4 hv4 hkW4 ri4 hk4 hB4 hN4
  cases ho4
  subst hv4
  refine rk ?_
  refine bU (bV _ _) [nI 4,nI (cU r3)] ri4 (by kernel_rfl) (by kernel_rfl) (by kernel_rfl) (by kernel_rfl) (by kernel_rfl) (fun W hF hr hk=>jJ b _ 4 _ (by decide) W hF hr) (fun ho W e p he hk => .pan (by simp only [fQ,hM];rw [if_neg (by unfold kZ;rw [h_nan];simp)]) e p he hk) ?_
  rintro x5 ts5 r5 ho5 ht5 hn5 W v5 w5 B5 hv5 hkW5 ri5 hk5 hB5 hN5
  cases ho5
 refine bU (bV _ _) [nP b,nT [110,97,110]] ri2 (by kernel_rfl) (by kernel_rfl) (by kernel_rfl) (by kernel_rfl) (by kernel_rfl) (fun W hF hr hk=>sI b _ [110,97,110] false (by rw [ht2,h_nan];rfl) W hF hr) (fun ho W e p he hk => .pan (by cases ho) e p he hk) ?_
 rintro x3 ts3 r3 ho3 ht3 hn3 W v3 w3 B3 hv3 hkW3 ri3 hk3 hB3 hN3
 cases ho3
 subst hv3
 rw [ht2] at ht3
 refine rk ?_
 rcases h_true:bX [116,114,117,101] us with _ | u_true
 rotate_left
 ·
  refine bU (bV _ _) [nP b,nT [116,114,117,101]] ri3 (by kernel_rfl) (by kernel_rfl) (by kernel_rfl) (by kernel_rfl) (by kernel_rfl) (fun W hF hr hk=>sI b _ [116,114,117,101] true (by rw [ht3,h_true];rfl) W hF hr) (fun ho W e p he hk => .pan (by cases ho) e p he hk) ?_
  rintro x4 ts4 r4 ho4 ht4 hn4 W v4 w4 B4 hv4 hkW4 ri4 hk4 hB4 hN4
  cases ho4
  subst hv4
  refine rs [] 60 1 ?_
  refine bU (bV _ _) [nP b] ri4 (by kernel_rfl) (by kernel_rfl) (by kernel_rfl) (by kernel_rfl) (by kernel_rfl) (fun W hF hr hk=>kB b _ W hF hr) (fun ho W e p he hk => .pan (by cases ho) e p he hk) ?_
  rintro x5 ts5 r5 ho5 ht5 hn5 W v5 w5 B5 hv5 hkW5 ri5 hk5 hB5 hN5
  cases ho5
  subst hv5
  refine rk ?_
  refine bU (bV _ _) [nI 4,nI (cU r4)] ri5 (by kernel_rfl) (by kernel_rfl) (by kernel_rfl) (by kernel_rfl) (by kernel_rfl) (fun W hF hr hk=>jJ b _ 4 _ (by decide) W hF hr) (fun ho W e p he hk => .pan (by simp only [fQ,hM];rw [if_neg (by unfold kZ;rw [h_nan,h_true];simp)]) e p he hk) ?_
  rintro x6 ts6 r6 ho6 ht6 hn6 W v6 w6 B6 hv6 hkW6 ri6 hk6 hB6 hN6
  cases ho6
 refine bU (bV _ _) [nP b,nT [116,114,117,101]] ri3 (by kernel_rfl) (by kernel_rfl) (by kernel_rfl) (by kernel_rfl) (by kernel_rfl) (fun W hF hr hk=>sI b _ [116,114,117,101] false (by rw [ht3,h_true];rfl) W hF hr) (fun ho W e p he hk => .pan (by cases ho) e p he hk) ?_
 rintro x4 ts4 r4 ho4 ht4 hn4 W v4 w4 B4 hv4 hkW4 ri4 hk4 hB4 hN4
 cases ho4
 subst hv4
 rw [ht3] at ht4
 refine rk ?_
 rcases h_false:bX [102,97,108,115,101] us with _ | u_false
 rotate_left
 ·
  refine bU (bV _ _) [nP b,nT [102,97,108,115,101]] ri4 (by kernel_rfl) (by kernel_rfl) (by kernel_rfl) (by kernel_rfl) (by kernel_rfl) (fun W hF hr hk=>sI b _ [102,97,108,115,101] true (by rw [ht4,h_false];rfl) W hF hr) (fun ho W e p he hk => .pan (by cases ho) e p he hk) ?_
  rintro x5 ts5 r5 ho5 ht5 hn5 W v5 w5 B5 hv5 hkW5 ri5 hk5 hB5 hN5
  cases ho5
  subst hv5
  refine rs [] 60 1 ?_
  refine bU (bV _ _) [nP b] ri5 (by kernel_rfl) (by kernel_rfl) (by kernel_rfl) (by kernel_rfl) (by kernel_rfl) (fun W hF hr hk=>kB b _ W hF hr) (fun ho W e p he hk => .pan (by cases ho) e p he hk) ?_
  rintro x6 ts6 r6 ho6 ht6 hn6 W v6 w6 B6 hv6 hkW6 ri6 hk6 hB6 hN6
  cases ho6
  subst hv6
  refine rk ?_
  refine bU (bV _ _) [nI 4,nI (cU r5)] ri6 (by kernel_rfl) (by kernel_rfl) (by kernel_rfl) (by kernel_rfl) (by kernel_rfl) (fun W hF hr hk=>jJ b _ 4 _ (by decide) W hF hr) (fun ho W e p he hk => .pan (by simp only [fQ,hM];rw [if_neg (by unfold kZ;rw [h_nan,h_true,h_false];simp)]) e p he hk) ?_
  rintro x7 ts7 r7 ho7 ht7 hn7 W v7 w7 B7 hv7 hkW7 ri7 hk7 hB7 hN7
  cases ho7
 refine bU (bV _ _) [nP b,nT [102,97,108,115,101]] ri4 (by kernel_rfl) (by kernel_rfl) (by kernel_rfl) (by kernel_rfl) (by kernel_rfl) (fun W hF hr hk=>sI b _ [102,97,108,115,101] false (by rw [ht4,h_false];rfl) W hF hr) (fun ho W e p he hk => .pan (by cases ho) e p he hk) ?_
 rintro x5 ts5 r5 ho5 ht5 hn5 W v5 w5 B5 hv5 hkW5 ri5 hk5 hB5 hN5
 cases ho5
 subst hv5
 rw [ht4] at ht5
 refine rs [] 60 1 ?_
 have hNo:kZ us=true:=by unfold kZ;rw [h_nan,h_true,h_false];rfl
 rcases hL:dN us with _ | ⟨⟨ty,bits⟩,vs⟩
 ·
  refine bU (bV _ _) [nP b] ri5 (by kernel_rfl) (by kernel_rfl) (by kernel_rfl) (by kernel_rfl) (by kernel_rfl) (fun W hF hr hk=>aK3 b r5 (ht5 ▸ hL) W hF hr) (fun ho W e p he hk => .pan (by cases ho) e p he hk) ?_
  rintro x6 ts6 r6 ho6 ht6 hn6 W v6 w6 B6 hv6 hkW6 ri6 hk6 hB6 hN6
  cases ho6
  subst hv6
  refine rk ?_
  refine gK true (b:=true) (rfl) (rk ?_)
  refine bU (bV _ _) [nP b] ri6 (by kernel_rfl) (by kernel_rfl) (by kernel_rfl) (by kernel_rfl) (by kernel_rfl) (fun W hF hr hk=>kB b _ W hF hr) (fun ho W e p he hk => .pan (by cases ho) e p he hk) ?_
  rintro x7 ts7 r7 ho7 ht7 hn7 W v7 w7 B7 hv7 hkW7 ri7 hk7 hB7 hN7
  cases ho7
  subst hv7
  refine rk ?_
  refine bU (bV _ _) [nI 4,nI (cU r6)] ri7 (by kernel_rfl) (by kernel_rfl) (by kernel_rfl) (by kernel_rfl) (by kernel_rfl) (fun W hF hr hk=>jJ b _ 4 _ (by decide) W hF hr) (fun ho W e p he hk => .pan (by simp only [fQ,hM];rw [if_pos hNo];rw [hL]) e p he hk) ?_
  rintro x8 ts8 r8 ho8 ht8 hn8 W v8 w8 B8 hv8 hkW8 ri8 hk8 hB8 hN8
  cases ho8
 refine bU (bV _ _) [nP b] ri5 (by kernel_rfl) (by kernel_rfl) (by kernel_rfl) (by kernel_rfl) (by kernel_rfl) (fun W hF hr hk=>aKr b r5 (ht5 ▸ hL) W hF hr) (fun ho W e p he hk => .pan (by cases ho) e p he hk) ?_
 rintro x6 ts6 r6 ho6 ht6 hn6 W v6 w6 B6 hv6 hkW6 ri6 hk6 hB6 hN6
 cases ho6
 subst hv6
 refine rk ?_
 refine gK false (b:=false) (rfl) (rk ?_)
 by_cases hty:ty=t
 rotate_left
 ·
  refine gK true (b:=(!intEq ty t)) (by rw [lC hty];rfl) (rk ?_)
  refine bU (bV _ _) [nI 9,nI (cU r)] ri6 (by kernel_rfl) (by kernel_rfl) (by kernel_rfl) (by kernel_rfl) (by kernel_rfl) (fun W hF hr hk=>jJ b _ 9 _ (by decide) W hF hr) (fun ho W e p he hk => .pan (by simp only [fQ,hM];rw [if_pos hNo];rw [hL];simp only;rw [if_neg hty]) e p he hk) ?_
  rintro x7 ts7 r7 ho7 ht7 hn7 W v7 w7 B7 hv7 hkW7 ri7 hk7 hB7 hN7
  cases ho7
 refine gK false (b:=(!intEq ty t)) (by rw [nX hty];rfl) (rs [52] 60 0 ?_)
 by_cases ht1:t=1
 ·
  refine gT 51 t 1 ht1 (rs [] 60 3 ?_)
  have hsv:mF true t bits=Go.IntKind.u64.wrap (0 - bits):=by unfold mF;rw [if_pos rfl,if_pos ht1]
  exact gR (.agg #[n8 ty,n6 (Go.IntKind.u64.wrap (0 - bits))]) (fun W hk => .ret (r':=r6) (by simp only [fQ,hM];rw [if_pos hNo];rw [hL];simp only;rw [if_pos hty,ht6]) (⟨by rw [hn6.1,hn5.1,hn4.1,hn3.1,hn2.1,hn1.1],by rw [hn6.2,hn5.2,hn4.2,hn3.2,hn2.2,hn1.2]⟩) (by rw [hty,hsv]) (ri6.to hk) (ri6.all hk))
 refine gF 51 t 1 ht1 (rs [] 60 3 ?_)
 have hsv:mF true t bits=Go.bits .xor .u64 bits 9223372036854775808:=by unfold mF;rw [if_pos rfl,if_neg ht1]
 exact gR (.agg #[n8 ty,n6 (Go.bits .xor .u64 bits 9223372036854775808)]) (fun W hk => .ret (r':=r6) (by simp only [fQ,hM];rw [if_pos hNo];rw [hL];simp only;rw [if_pos hty,ht6]) (⟨by rw [hn6.1,hn5.1,hn4.1,hn3.1,hn2.1,hn1.1],by rw [hn6.2,hn5.2,hn4.2,hn3.2,hn2.2,hn1.2]⟩) (by rw [hty,hsv]) (ri6.to hk) (ri6.all hk))
end
section
def aV0 (x:Vr) (w:World) (v:Value) (w':World):Prop:=∃ ds:List Value,v = .agg ds.toArray∧VrAt x ds
open Go.Sy in
set_option maxRecDepth 100000 in
theorem zY (b:Nat) (r:Rd) {F:Nat→Prop} (w:World) (hF:∀ k,F k→k<w.heap.size) (h:RdAt F w b r):Calls Tryz.prog 35 #[nP b] w (Reads F b (Sm r) (eJ r.toks) aV0 w):=by
 have ri0:=RI.init hF h
 refine eN [nP b] Tryz.func35 (fun γ0 hγ0=>?_)
 refine rk ?_
 refine bU (bV _ _) [nP b] ri0 (by kernel_rfl) (by kernel_rfl) (by kernel_rfl) (by kernel_rfl) (by kernel_rfl) (fun W hF hr hk=>nN b r W hF hr) (fun ho W e p he hk => .pan (by simp only [eJ,ho]) e p he hk) ?_
 rintro x1 ts1 r1 ho1 ht1 hn1 W v1 w1 B1 hv1 hkW1 ri1 hk1 hB1 hN1
 subst hv1
 refine rk ?_
 rcases h_int:bX [105,110,116] ts1 with _ | us
 rotate_left
 ·
  refine bU (bV _ _) [nP b,nT [105,110,116]] ri1 (by kernel_rfl) (by kernel_rfl) (by kernel_rfl) (by kernel_rfl) (by kernel_rfl) (fun W hF hr hk=>dV b _ [105,110,116] (ht1 ▸ h_int) W hF hr) (fun ho W e p he hk => .pan (by cases ho) e p he hk) ?_
  rintro x2 ts2 r2 ho2 ht2 hn2 W v2 w2 B2 hv2 hkW2 ri2 hk2 hB2 hN2
  cases ho2
  subst hv2
  refine rk ?_
  refine gK true (b:=true) (rfl) (rk ?_)
  rcases hE:bX [61] us with _ | vs
  ·
   refine bU (bV _ _) [nP b,nT [61]] ri2 (by kernel_rfl) (by kernel_rfl) (by kernel_rfl) (by kernel_rfl) (by kernel_rfl) (fun W hF hr hk=>dU b _ [61] (ht2 ▸ hE) W hF hr) (fun ho W e p he hk => .pan (by cases ho) e p he hk) ?_
   rintro x3 ts3 r3 ho3 ht3 hn3 W v3 w3 B3 hv3 hkW3 ri3 hk3 hB3 hN3
   cases ho3
   subst hv3
   refine rk ?_
   refine gK false (b:=false) (rfl) (rk ?_)
   rw [ht2] at ht3
   refine bU (bV _ _) [nP b,nT [59]] ri3 (by kernel_rfl) (by kernel_rfl) (by kernel_rfl) (by kernel_rfl) (by kernel_rfl) (fun W hF hr hk=>e8 b r3 [59] W hF hr) (fun ho W e p he hk => .pan (by simp only [eJ,ho1,fR,h_int,hE];rw [← ht3];unfold dD at ho;rw [aU] at ho ⊢;exact ho) e p he hk) ?_
   rintro x4 ts4 r4 ho4 ht4 hn4 W v4 w4 B4 hv4 hkW4 ri4 hk4 hB4 hN4
   unfold dD at ho4
   rw [ht3] at ho4
   obtain ⟨zs,hzs,e⟩:=aC ho4
   cases e
   subst hv4
   refine rs [] 60 2 ?_
   exact gR (.agg #[nT x1,n8 1,n6 0]) (fun W hk => .ret (r':=r4) (by simp only [eJ,ho1,fR,h_int,hE];rw [hzs,ht4];rfl) (⟨by rw [hn4.1,hn3.1,hn2.1,hn1.1],by rw [hn4.2,hn3.2,hn2.2,hn1.2]⟩) (⟨_,rfl,(rfl:VrAt ⟨x1,1,0⟩ _)⟩) (ri4.to hk) (ri4.all hk))
  refine bU (bV _ _) [nP b,nT [61]] ri2 (by kernel_rfl) (by kernel_rfl) (by kernel_rfl) (by kernel_rfl) (by kernel_rfl) (fun W hF hr hk=>dV b _ [61] (ht2 ▸ hE) W hF hr) (fun ho W e p he hk => .pan (by cases ho) e p he hk) ?_
  rintro x3 ts3 r3 ho3 ht3 hn3 W v3 w3 B3 hv3 hkW3 ri3 hk3 hB3 hN3
  cases ho3
  subst hv3
  refine rk ?_
  refine gK true (b:=true) (rfl) (rk ?_)
  refine bU (bV _ _) [nP b,n8 1] ri3 (by kernel_rfl) (by kernel_rfl) (by kernel_rfl) (by kernel_rfl) (by kernel_rfl) (fun W hF hr hk=>aAh b r3 1 W hF hr) (fun ho W e p he hk => .pan (by simp only [eJ,ho1,fR,h_int,hE];rw [← ht3,ho]) e p he hk) ?_
  rintro x4 ts4 r4 ho4 ht4 hn4 W v4 w4 B4 hv4 hkW4 ri4 hk4 hB4 hN4
  subst hv4
  refine rk ?_
  refine bU (bV _ _) [nP b,nT [59]] ri4 (by kernel_rfl) (by kernel_rfl) (by kernel_rfl) (by kernel_rfl) (by kernel_rfl) (fun W hF hr hk=>e8 b r4 [59] W hF hr) (fun ho W e p he hk => .pan (by simp only [eJ,ho1,fR,h_int,hE];rw [← ht3,ho4];simp only [];rw [← ht4];unfold dD at ho;rw [aU] at ho ⊢;exact ho) e p he hk) ?_
  rintro x5 ts5 r5 ho5 ht5 hn5 W v5 w5 B5 hv5 hkW5 ri5 hk5 hB5 hN5
  unfold dD at ho5
  rw [ht4] at ho5
  obtain ⟨zs,hzs,e⟩:=aC ho5
  cases e
  subst hv5
  refine rs [] 60 2 ?_
  exact gR (.agg #[nT x1,n8 1,n6 x4]) (fun W hk => .ret (r':=r5) (by simp only [eJ,ho1,fR,h_int,hE];rw [← ht3,ho4];simp only [];rw [hzs,ht5];rfl) (⟨by rw [hn5.1,hn4.1,hn3.1,hn2.1,hn1.1],by rw [hn5.2,hn4.2,hn3.2,hn2.2,hn1.2]⟩) (⟨_,rfl,(rfl:VrAt ⟨x1,1,x4⟩ _)⟩) (ri5.to hk) (ri5.all hk))
 refine bU (bV _ _) [nP b,nT [105,110,116]] ri1 (by kernel_rfl) (by kernel_rfl) (by kernel_rfl) (by kernel_rfl) (by kernel_rfl) (fun W hF hr hk=>dU b _ [105,110,116] (ht1 ▸ h_int) W hF hr) (fun ho W e p he hk => .pan (by cases ho) e p he hk) ?_
 rintro x2 ts2 r2 ho2 ht2 hn2 W v2 w2 B2 hv2 hkW2 ri2 hk2 hB2 hN2
 cases ho2
 subst hv2
 refine rk ?_
 rw [ht1] at ht2
 refine gK false (b:=false) (rfl) (rk ?_)
 rcases h_bool:bX [98,111,111,108] ts1 with _ | us
 rotate_left
 ·
  refine bU (bV _ _) [nP b,nT [98,111,111,108]] ri2 (by kernel_rfl) (by kernel_rfl) (by kernel_rfl) (by kernel_rfl) (by kernel_rfl) (fun W hF hr hk=>dV b _ [98,111,111,108] (ht2 ▸ h_bool) W hF hr) (fun ho W e p he hk => .pan (by cases ho) e p he hk) ?_
  rintro x3 ts3 r3 ho3 ht3 hn3 W v3 w3 B3 hv3 hkW3 ri3 hk3 hB3 hN3
  cases ho3
  subst hv3
  refine rk ?_
  refine gK true (b:=true) (rfl) (rk ?_)
  rcases hE:bX [61] us with _ | vs
  ·
   refine bU (bV _ _) [nP b,nT [61]] ri3 (by kernel_rfl) (by kernel_rfl) (by kernel_rfl) (by kernel_rfl) (by kernel_rfl) (fun W hF hr hk=>dU b _ [61] (ht3 ▸ hE) W hF hr) (fun ho W e p he hk => .pan (by cases ho) e p he hk) ?_
   rintro x4 ts4 r4 ho4 ht4 hn4 W v4 w4 B4 hv4 hkW4 ri4 hk4 hB4 hN4
   cases ho4
   subst hv4
   refine rk ?_
   refine gK false (b:=false) (rfl) (rk ?_)
   rw [ht3] at ht4
   refine bU (bV _ _) [nP b,nT [59]] ri4 (by kernel_rfl) (by kernel_rfl) (by kernel_rfl) (by kernel_rfl) (by kernel_rfl) (fun W hF hr hk=>e8 b r4 [59] W hF hr) (fun ho W e p he hk => .pan (by simp only [eJ,ho1,fR,h_int,h_bool,hE];rw [← ht4];unfold dD at ho;rw [aU] at ho ⊢;exact ho) e p he hk) ?_
   rintro x5 ts5 r5 ho5 ht5 hn5 W v5 w5 B5 hv5 hkW5 ri5 hk5 hB5 hN5
   unfold dD at ho5
   rw [ht4] at ho5
   obtain ⟨zs,hzs,e⟩:=aC ho5
   cases e
   subst hv5
   refine rs [] 60 2 ?_
   exact gR (.agg #[nT x1,n8 2,n6 0]) (fun W hk => .ret (r':=r5) (by simp only [eJ,ho1,fR,h_int,h_bool,hE];rw [hzs,ht5];rfl) (⟨by rw [hn5.1,hn4.1,hn3.1,hn2.1,hn1.1],by rw [hn5.2,hn4.2,hn3.2,hn2.2,hn1.2]⟩) (⟨_,rfl,(rfl:VrAt ⟨x1,2,0⟩ _)⟩) (ri5.to hk) (ri5.all hk))
  refine bU (bV _ _) [nP b,nT [61]] ri3 (by kernel_rfl) (by kernel_rfl) (by kernel_rfl) (by kernel_rfl) (by kernel_rfl) (fun W hF hr hk=>dV b _ [61] (ht3 ▸ hE) W hF hr) (fun ho W e p he hk => .pan (by cases ho) e p he hk) ?_
  rintro x4 ts4 r4 ho4 ht4 hn4 W v4 w4 B4 hv4 hkW4 ri4 hk4 hB4 hN4
  cases ho4
  subst hv4
  refine rk ?_
  refine gK true (b:=true) (rfl) (rk ?_)
  refine bU (bV _ _) [nP b,n8 2] ri4 (by kernel_rfl) (by kernel_rfl) (by kernel_rfl) (by kernel_rfl) (by kernel_rfl) (fun W hF hr hk=>aAh b r4 2 W hF hr) (fun ho W e p he hk => .pan (by simp only [eJ,ho1,fR,h_int,h_bool,hE];rw [← ht4,ho]) e p he hk) ?_
  rintro x5 ts5 r5 ho5 ht5 hn5 W v5 w5 B5 hv5 hkW5 ri5 hk5 hB5 hN5
  subst hv5
  refine rk ?_
  refine bU (bV _ _) [nP b,nT [59]] ri5 (by kernel_rfl) (by kernel_rfl) (by kernel_rfl) (by kernel_rfl) (by kernel_rfl) (fun W hF hr hk=>e8 b r5 [59] W hF hr) (fun ho W e p he hk => .pan (by simp only [eJ,ho1,fR,h_int,h_bool,hE];rw [← ht4,ho5];simp only [];rw [← ht5];unfold dD at ho;rw [aU] at ho ⊢;exact ho) e p he hk) ?_
  rintro x6 ts6 r6 ho6 ht6 hn6 W v6 w6 B6 hv6 hkW6 ri6 hk6 hB6 hN6
  unfold dD at ho6
  rw [ht5] at ho6
  obtain ⟨zs,hzs,e⟩:=aC ho6
  cases e
  subst hv6
  refine rs [] 60 2 ?_
  exact gR (.agg #[nT x1,n8 2,n6 x5]) (fun W hk => .ret (r':=r6) (by simp only [eJ,ho1,fR,h_int,h_bool,hE];rw [← ht4,ho5];simp only [];rw [hzs,ht6];rfl) (⟨by rw [hn6.1,hn5.1,hn4.1,hn3.1,hn2.1,hn1.1],by rw [hn6.2,hn5.2,hn4.2,hn3.2,hn2.2,hn1.2]⟩) (⟨_,rfl,(rfl:VrAt ⟨x1,2,x5⟩ _)⟩) (ri6.to hk) (ri6.all hk))
 refine bU (bV _ _) [nP b,nT [98,111,111,108]] ri2 (by kernel_rfl) (by kernel_rfl) (by kernel_rfl) (by kernel_rfl) (by kernel_rfl) (fun W hF hr hk=>dU b _ [98,111,111,108] (ht2 ▸ h_bool) W hF hr) (fun ho W e p he hk => .pan (by cases ho) e p he hk) ?_
 rintro x3 ts3 r3 ho3 ht3 hn3 W v3 w3 B3 hv3 hkW3 ri3 hk3 hB3 hN3
 cases ho3
 subst hv3
 refine rk ?_
 rw [ht2] at ht3
 refine gK false (b:=false) (rfl) (rk ?_)
 rcases h_real:bX [114,101,97,108] ts1 with _ | us
 rotate_left
 ·
  refine bU (bV _ _) [nP b,nT [114,101,97,108]] ri3 (by kernel_rfl) (by kernel_rfl) (by kernel_rfl) (by kernel_rfl) (by kernel_rfl) (fun W hF hr hk=>dV b _ [114,101,97,108] (ht3 ▸ h_real) W hF hr) (fun ho W e p he hk => .pan (by cases ho) e p he hk) ?_
  rintro x4 ts4 r4 ho4 ht4 hn4 W v4 w4 B4 hv4 hkW4 ri4 hk4 hB4 hN4
  cases ho4
  subst hv4
  refine rk ?_
  refine gK true (b:=true) (rfl) (rk ?_)
  rcases hE:bX [61] us with _ | vs
  ·
   refine bU (bV _ _) [nP b,nT [61]] ri4 (by kernel_rfl) (by kernel_rfl) (by kernel_rfl) (by kernel_rfl) (by kernel_rfl) (fun W hF hr hk=>dU b _ [61] (ht4 ▸ hE) W hF hr) (fun ho W e p he hk => .pan (by cases ho) e p he hk) ?_
   rintro x5 ts5 r5 ho5 ht5 hn5 W v5 w5 B5 hv5 hkW5 ri5 hk5 hB5 hN5
   cases ho5
   subst hv5
   refine rk ?_
   refine gK false (b:=false) (rfl) (rk ?_)
   rw [ht4] at ht5
   refine bU (bV _ _) [nP b,nT [59]] ri5 (by kernel_rfl) (by kernel_rfl) (by kernel_rfl) (by kernel_rfl) (by kernel_rfl) (fun W hF hr hk=>e8 b r5 [59] W hF hr) (fun ho W e p he hk => .pan (by simp only [eJ,ho1,fR,h_int,h_bool,h_real,hE];rw [← ht5];unfold dD at ho;rw [aU] at ho ⊢;exact ho) e p he hk) ?_
   rintro x6 ts6 r6 ho6 ht6 hn6 W v6 w6 B6 hv6 hkW6 ri6 hk6 hB6 hN6
   unfold dD at ho6
   rw [ht5] at ho6
   obtain ⟨zs,hzs,e⟩:=aC ho6
   cases e
   subst hv6
   refine rs [] 60 2 ?_
   exact gR (.agg #[nT x1,n8 3,n6 0]) (fun W hk => .ret (r':=r6) (by simp only [eJ,ho1,fR,h_int,h_bool,h_real,hE];rw [hzs,ht6];rfl) (⟨by rw [hn6.1,hn5.1,hn4.1,hn3.1,hn2.1,hn1.1],by rw [hn6.2,hn5.2,hn4.2,hn3.2,hn2.2,hn1.2]⟩) (⟨_,rfl,(rfl:VrAt ⟨x1,3,0⟩ _)⟩) (ri6.to hk) (ri6.all hk))
  refine bU (bV _ _) [nP b,nT [61]] ri4 (by kernel_rfl) (by kernel_rfl) (by kernel_rfl) (by kernel_rfl) (by kernel_rfl) (fun W hF hr hk=>dV b _ [61] (ht4 ▸ hE) W hF hr) (fun ho W e p he hk => .pan (by cases ho) e p he hk) ?_
  rintro x5 ts5 r5 ho5 ht5 hn5 W v5 w5 B5 hv5 hkW5 ri5 hk5 hB5 hN5
  cases ho5
  subst hv5
  refine rk ?_
  refine gK true (b:=true) (rfl) (rk ?_)
  refine bU (bV _ _) [nP b,n8 3] ri5 (by kernel_rfl) (by kernel_rfl) (by kernel_rfl) (by kernel_rfl) (by kernel_rfl) (fun W hF hr hk=>aAh b r5 3 W hF hr) (fun ho W e p he hk => .pan (by simp only [eJ,ho1,fR,h_int,h_bool,h_real,hE];rw [← ht5,ho]) e p he hk) ?_
  rintro x6 ts6 r6 ho6 ht6 hn6 W v6 w6 B6 hv6 hkW6 ri6 hk6 hB6 hN6
  subst hv6
  refine rk ?_
  refine bU (bV _ _) [nP b,nT [59]] ri6 (by kernel_rfl) (by kernel_rfl) (by kernel_rfl) (by kernel_rfl) (by kernel_rfl) (fun W hF hr hk=>e8 b r6 [59] W hF hr) (fun ho W e p he hk => .pan (by simp only [eJ,ho1,fR,h_int,h_bool,h_real,hE];rw [← ht5,ho6];simp only [];rw [← ht6];unfold dD at ho;rw [aU] at ho ⊢;exact ho) e p he hk) ?_
  rintro x7 ts7 r7 ho7 ht7 hn7 W v7 w7 B7 hv7 hkW7 ri7 hk7 hB7 hN7
  unfold dD at ho7
  rw [ht6] at ho7
  obtain ⟨zs,hzs,e⟩:=aC ho7
  cases e
  subst hv7
  refine rs [] 60 2 ?_
  exact gR (.agg #[nT x1,n8 3,n6 x6]) (fun W hk => .ret (r':=r7) (by simp only [eJ,ho1,fR,h_int,h_bool,h_real,hE];rw [← ht5,ho6];simp only [];rw [hzs,ht7];rfl) (⟨by rw [hn7.1,hn6.1,hn5.1,hn4.1,hn3.1,hn2.1,hn1.1],by rw [hn7.2,hn6.2,hn5.2,hn4.2,hn3.2,hn2.2,hn1.2]⟩) (⟨_,rfl,(rfl:VrAt ⟨x1,3,x6⟩ _)⟩) (ri7.to hk) (ri7.all hk))
 refine bU (bV _ _) [nP b,nT [114,101,97,108]] ri3 (by kernel_rfl) (by kernel_rfl) (by kernel_rfl) (by kernel_rfl) (by kernel_rfl) (fun W hF hr hk=>dU b _ [114,101,97,108] (ht3 ▸ h_real) W hF hr) (fun ho W e p he hk => .pan (by cases ho) e p he hk) ?_
 rintro x4 ts4 r4 ho4 ht4 hn4 W v4 w4 B4 hv4 hkW4 ri4 hk4 hB4 hN4
 cases ho4
 subst hv4
 refine rk ?_
 rw [ht3] at ht4
 refine gK false (b:=false) (rfl) (rk ?_)
 refine bU (bV _ _) [nP b] ri4 (by kernel_rfl) (by kernel_rfl) (by kernel_rfl) (by kernel_rfl) (by kernel_rfl) (fun W hF hr hk=>kB b _ W hF hr) (fun ho W e p he hk => .pan (by cases ho) e p he hk) ?_
 rintro x5 ts5 r5 ho5 ht5 hn5 W v5 w5 B5 hv5 hkW5 ri5 hk5 hB5 hN5
 cases ho5
 subst hv5
 refine rk ?_
 refine bU (bV _ _) [nI 4,nI (cU r4)] ri5 (by kernel_rfl) (by kernel_rfl) (by kernel_rfl) (by kernel_rfl) (by kernel_rfl) (fun W hF hr hk=>jJ b _ 4 _ (by decide) W hF hr) (fun ho W e p he hk => .pan (by simp only [eJ,ho1,fR,h_int,h_bool,h_real]) e p he hk) ?_
 rintro x6 ts6 r6 ho6 ht6 hn6 W v6 w6 B6 hv6 hkW6 ri6 hk6 hB6 hN6
 cases ho6
end
section
theorem tV {ts us:List Tok} {e:Ex} (h:whK ts=some (e,us)):wgt e+us.length≤ts.length:=(o0 _).1 _ _ _ _ _ h
theorem aPq:wgt ex0=1:=rfl
theorem qY (k:Int) (nm:List UInt8) (e:Ex):swt (.mk k nm e [] [])=1+wgt e:=by simp [swt,cS]
theorem aSo {ts us:List Tok} {s:St} (h:fG ts=some (s,us)):swt s+us.length≤ts.length+1:=by
 simp only [fG] at h
 split at h
 · rename_i hT
   have hT:=b5 hT
   obtain ⟨p,hp,h⟩:=aC h
   have hp:=jN hp
   injection h with g1 g2;subst g1 g2;rw [qY,aPq];omega
 split at h
 · rename_i hT
   have hT:=b5 hT
   obtain ⟨p,hp,h⟩:=aC h
   have hp:=jN hp
   injection h with g1 g2;subst g1 g2;rw [qY,aPq];omega
 split at h
 · rename_i hT
   have hT:=b5 hT
   obtain ⟨p,hp,h⟩:=aC h
   have hp:=tV hp
   injection h with g1 g2;subst g1 g2;rw [qY];omega
 split at h
 · rename_i hT
   have hT:=b5 hT
   injection h with h;injection h with g1 g2;subst g1 g2;rw [qY,aPq];omega
 split at h
 · cases h
 rename_i hn
 have hn:=jN hn
 split at h
 · cases h
 rename_i hT
 have hT:=b5 hT
 obtain ⟨p,hp,h⟩:=aC h
 have hp:=tV hp
 injection h with g1 g2;subst g1 g2;rw [qY];omega
theorem aCj:∀ n:Nat,(∀ d ts l us,fN n d ts=some (l,us)→cS l+us.length+2≤ts.length)∧(∀ d ts l us,d5 n d ts=some (l,us)→cS l+us.length≤ts.length)∧(∀ d ts s us,stK n d ts=some (s,us)→swt s+us.length≤ts.length)
 | 0=>⟨fun _ _ _ _ h=>(by simp only [fN] at h;cases h),fun _ _ _ _ h=>(by simp only [d5] at h;cases h),fun _ _ _ _ h=>(by simp only [stK] at h;cases h)⟩
 | n+1=>by
   obtain ⟨hb,hl,hs⟩:=aCj n
   refine ⟨fun d ts l us h=>?_,fun d ts l us h=>?_,fun d ts s us h=>?_⟩
   · simp only [fN] at h
     split at h
     · cases h
     rename_i hT
     have hT:=b5 hT
     split at h <;> first | (cases h;done) | skip
     split at h
     · cases h
     rename_i h1
     have h1:=hl _ _ _ _ h1
     obtain ⟨vs,hU,h⟩:=aC h
     have hU:=b5 hU
     injection h with g1 g2;subst g1 g2
     omega
   · simp only [d5] at h
     split at h
     · injection h with h;injection h with g1 g2;subst g1 g2;simp [cS]
     split at h
     · cases h
     rename_i h1
     have h1:=hs _ _ _ _ h1
     obtain ⟨p,hp,h⟩:=aC h
     have hp:=hl _ _ _ _ hp
     injection h with g1 g2;subst g1 g2
     simp only [cS]
     omega
   · simp only [stK] at h
     split at h
     · rename_i hT
       have hT:=b5 hT
       split at h
       · cases h
       rename_i he
       have he:=tV he
       split at h
       · cases h
       rename_i h1
       have h1:=hb _ _ _ _ h1
       split at h
       · rename_i hU
         have hU:=b5 hU
         obtain ⟨p,hp,h⟩:=aC h
         have hp:=hb _ _ _ _ hp
         injection h with g1 g2;subst g1 g2
         simp only [swt]
         omega
       · injection h with h;injection h with g1 g2;subst g1 g2
         simp only [swt,cS]
         omega
     split at h
     · rename_i hT
       have hT:=b5 hT
       split at h
       · cases h
       rename_i he
       have he:=tV he
       obtain ⟨p,hp,h⟩:=aC h
       have hp:=hb _ _ _ _ hp
       injection h with g1 g2;subst g1 g2
       simp only [swt,cS]
       omega
     split at h
     · cases h
     rename_i h1
     have h1:=aSo h1
     obtain ⟨vs,hU,h⟩:=aC h
     have hU:=b5 hU
     injection h with g1 g2;subst g1 g2
     omega
theorem aSp {t x:Int} {ts us:List Tok} (h:fQ t ts=some (x,us)):us.length≤ts.length:=by
 simp only [fQ] at h
 split at h
 · rename_i hT
   have hT:=b5 hT
   split at h <;> first | (cases h;done) | skip
   split at h
   · cases h
   rename_i hL
   have hL:=aAo hL
   split at h <;> first | (cases h;done) | skip
   injection h with h;injection h with g1 g2;subst g1 g2;omega
 · split at h
   · cases h
   rename_i hL
   have hL:=aAo hL
   split at h <;> first | (cases h;done) | skip
   injection h with h;injection h with g1 g2;subst g1 g2;omega
theorem aSv {t:Int} {ts us:List Tok} (h:fR ts=some (t,us)):us.length+1=ts.length:=by
 simp only [fR] at h
 split at h
 · rename_i hT
   have hT:=b5 hT
   injection h with h;injection h with g1 g2;subst g1 g2;exact hT
 split at h
 · rename_i hT
   have hT:=b5 hT
   injection h with h;injection h with g1 g2;subst g1 g2;exact hT
 split at h
 · rename_i hT
   have hT:=b5 hT
   injection h with h;injection h with g1 g2;subst g1 g2;exact hT
 · cases h
theorem zM {x:Vr} {ts us:List Tok} (h:eJ ts=some (x,us)):us.length+3≤ts.length:=by
 simp only [eJ] at h
 split at h
 · cases h
 rename_i hn
 have hn:=jN hn
 split at h
 · cases h
 rename_i ht
 have ht:=aSv ht
 split at h
 · rename_i hT
   have hT:=b5 hT
   split at h
   · cases h
   rename_i hv
   have hv:=aSp hv
   obtain ⟨zs,hz,h⟩:=aC h
   have hz:=b5 hz
   injection h with g1 g2;subst g1 g2;omega
 · obtain ⟨zs,hz,h⟩:=aC h
   have hz:=b5 hz
   injection h with g1 g2;subst g1 g2;omega
theorem aKn:∀ (n:Nat) {ts us:List Tok} {l:List Vr},eV n ts=some (l,us)→l.length+us.length≤ts.length
 | 0,ts,us,l,h=>by simp only [eV] at h;cases h
 | n+1,ts,us,l,h=>by
   simp only [eV] at h
   split at h
   · injection h with h;injection h with g1 g2;subst g1 g2;simp
   rename_i hT
   have hT:=b5 hT
   split at h
   · cases h
   rename_i hv
   have hv:=zM hv
   obtain ⟨p,hp,h⟩:=aC h
   have hp:=aKn n hp
   injection h with g1 g2;subst g1 g2
   simp only [aB]
   omega
theorem aKg {ts us:List Tok} {x:Th} (h:iY ts=some (x,us)):thw x+us.length+1≤ts.length:=by
 simp only [iY] at h
 split at h
 · cases h
 rename_i h1
 have h1:=b5 h1
 split at h
 · cases h
 rename_i h2
 have h2:=jN h2
 split at h
 · cases h
 rename_i h3
 have h3:=b5 h3
 split at h
 · cases h
 rename_i h4
 have h4:=aKn _ h4
 split at h
 · cases h
 rename_i h5
 have h5:=(aCj _).2.1 _ _ _ _ h5
 obtain ⟨q,h6,h⟩:=aC h
 have h6:=b5 h6
 injection h with g1 g2;subst g1 g2
 simp only [thw]
 omega
end
section
set_option maxRecDepth 100000
noncomputable def bY {α:Type} (a b:α):Bool:=@decide (a=b) (Classical.propDecidable _)
theorem sameB_t {α:Type} {a b:α}:bY a b=true↔a=b:=by unfold bY;exact @decide_eq_true_iff _ (Classical.propDecidable _)
theorem b9 {α:Type} {a b:α} (h:a≠b):bY a b=false:=by rw [← Bool.not_eq_true,sameB_t];exact h
theorem aRs:Tryz.prog.eqGuardType Tryz.prog.depth 47=false:=by kernel_rfl
noncomputable def uF (x y:Vr):Bool:=Sy.bEqL x.name y.name&&vEq x.ty x.bits y.ty y.bits
theorem vrEq_t {x y:Vr}:uF x y=true↔x=y:=by
 obtain ⟨a,b,c⟩:=x
 obtain ⟨d,e,g⟩:=y
 simp [uF,vEq,Sy.bEqL_eq,Sy.intEq_eq]
theorem zQ (ox oy:Operand) (x y:Vr) (w:World):
  (do eqGuard .neq 47 ox oy (.agg #[.string (str x.name),.int .u8 x.ty,.int .u64 x.bits]) (.agg #[.string (str y.name),.int .u8 y.ty,.int .u64 y.bits]);binOp .neq 47 (.agg #[.string (str x.name),.int .u8 x.ty,.int .u64 x.bits]) (.agg #[.string (str y.name),.int .u8 y.ty,.int .u64 y.bits]):Sem Value).run Tryz.prog w = .ok (.bool (!(uF x y))) w:=by
 have h1:(eqGuard .neq 47 ox oy (.agg #[.string (str x.name),.int .u8 x.ty,.int .u64 x.bits]) (.agg #[.string (str y.name),.int .u8 y.ty,.int .u64 y.bits])).run Tryz.prog w = .ok () w:=by
  have:=aRs
  unfold eqGuard
  go_simp
 have h2:(binOp .neq 47 (.agg #[.string (str x.name),.int .u8 x.ty,.int .u64 x.bits]) (.agg #[.string (str y.name),.int .u8 y.ty,.int .u64 y.bits])).run Tryz.prog w = .ok (.bool (!(uF x y))) w:=by
  have h0:Tryz.prog.underlying 47=some (.struct (Tryz.prog.fieldsOf 47)):=by rw [Program.fieldsOf,Tryz.underlying47]
  rw [run_neq_struct,run_equalIn_agg w 9999 _ _ _ h0 (by kernel_rfl)]
  have h1:=run_equalIn_string (P:=Tryz.prog) w 9998 9 (str x.name) (str y.name) Tryz.underlying9
  have h2:=pB x.ty x.bits y.ty y.bits 9997 w
  rw [str_toList,str_toList] at h1
  rw [Program.fieldsOf,Tryz.underlying47]
  unfold uF
  rw [Sy.bEqL_eq]
  go_simp
  by_cases ha:x.name=y.name <;> by_cases hb:x.ty=y.ty <;> by_cases hc:x.bits=y.bits <;> simp [ha,hb,hc,vEq,Sy.intEq_eq]
 exact Sy.eqG2 h1 h2
open Go.Sy
theorem aFa (L M:List (List UInt8)) (a1 a2:Option Addr) (n1 n2 cap1 cap2:Nat) (xs1 xs2:List Value) (w:World) (hn1:n1=L.length) (hn2:n2=M.length) (hbd:n1≤1099511627776)
  (hsl1:Sy.SlAt (·<w.heap.size) w a1 n1 1 xs1) (hsl2:Sy.SlAt (·<w.heap.size) w a2 n2 1 xs2) (hks1:LsAt TxAt L xs1) (hks2:LsAt TxAt M xs2):
  CB 29 #[.slice a1 n1 cap1,.slice a2 n2 cap2] w (.bool (bY L M)):=by
 refine eN [.slice a1 n1 cap1,.slice a2 n2 cap2] Tryz.func29 (fun γ0 hγ0=>?_)
 refine rk ?_
 refine cJ (b:=!(intEq (n1:Int) (n2:Int))) (by kernel_rfl) (fun hnn=>?_) (fun hnn=>?_)
 ·
  refine rs [] 60 2 ?_
  refine gR (.bool false) (fun W hk=>⟨?_,hk.below⟩)
  rw [b9]
  intro h
  rw [intEq_eq] at hnn;simp_all
 have hnn1:n1=n2:=by rw [intEq_eq] at hnn;have:(n1:Int)=(n2:Int):=(by simpa using hnn);omega
 refine rk ?_
 refine cF ?_
 refine cZ (fun i:List (List UInt8)×List (List UInt8)×List (List UInt8)=>i.2.1.length) (fun i=>L=i.1++i.2.1∧M=i.1++i.2.2) (fun i=>⟨mkT [(0,vL a1 n1 cap1),(1,vL a2 n2 cap2),(5,vI (i.1.length:Int))],mkH [],gz,[]⟩)
  ([],L,M) ⟨rfl,rfl⟩ (by kernel_rfl)
  (fun h=>gU _ [(0,vL a1 n1 cap1),(1,vL a2 n2 cap2),(5,vI (([]:List (List UInt8)).length:Int))] [] gz (fun b hb=>hγ0 b hb) h) ?_
 rintro ⟨l1,l2,m2⟩ ⟨hI1,hI2⟩ ih
 simp only at hI1 hI2
 have hq1:n1=l1.length+l2.length:=by rw [hn1,hI1,aA]
 have hq2:n2=l1.length+m2.length:=by rw [hn2,hI2,aA]
 refine rk ?_
 cases l2 with
 | nil=>
   obtain rfl:m2=[]:=aF (by simp only [aD] at hq1;omega)
   refine ky (l1.length:Int) (n1:Int) (by rw [hq1];simp) (rk ?_)
   refine gR (.bool true) (fun W hk=>⟨?_,hk.below⟩)
   rw [sameB_t.2 (by rw [hI1,hI2])]
 | cons x l3=>
   obtain ⟨y,m3,rfl⟩:∃ y m3,m2=y::m3:=by
    cases m2 with
    | nil=>simp only [aD,aB] at hq1 hq2;omega
    | cons a b=>exact ⟨a,b,rfl⟩
   have hin1:l1.length<n1:=by rw [hq1,aB];omega
   have hin2:l1.length<n2:=by omega
   have hks1':=hks1
   have hks2':=hks2
   rw [hI1] at hks1'
   rw [hI2] at hks2'
   obtain ⟨c1,hc1,hcell1⟩:=hks1'.at_ (fun _ _ h=>h.len)
   obtain ⟨c2,hc2,hcell2⟩:=hks2'.at_ (fun _ _ h=>h.len)
   refine kx (l1.length:Int) (n1:Int) (by omega) (rk ?_)
   obtain rfl:c1=[nT x]:=hc1
   obtain rfl:c2=[nT y]:=hc2
   refine kN cP (by kernel_rfl) ?_
   refine bZ [] 60 ?_
   refine qI 24 9 cap1 l1.length hsl1 hin1 ?_
   refine bZ [] 60 ?_
   refine qL 9 (nT x) l1.length 0 hsl1 (hcell1 0 _ rfl) ?_
   refine bZ [] 60 ?_
   refine qI 24 9 cap2 l1.length hsl2 hin2 ?_
   refine bZ [] 60 ?_
   refine qL 9 (nT y) l1.length 0 hsl2 (hcell2 0 _ rfl) ?_
   refine bZ [] 60 ?_
   refine qE ?_
   refine rk ?_
   refine cJ (b:=!(bEqL x y)) (by kernel_rfl) (fun hss=>?_) (fun hss=>?_)
   ·
    have hne:x≠y:=fun h=>by rw [h,bEqL_eq] at hss;simp at hss
    refine rs [] 60 2 ?_
    refine gR (.bool false) (fun W hk=>⟨?_,hk.below⟩)
    rw [b9]
    intro h
    rw [hI1,hI2] at h
    have h2:=(List.cons.inj (aZ h)).1
    exact hne h2
   ·
    have hxy:x=y:=by rw [bEqL_eq] at hss;simpa using hss
    refine rs [] 60 2 ?_
    refine gJ 5 l1 x (by omega) ?_
    exact gU _ [(0,vL a1 n1 cap1),(1,vL a2 n2 cap2),(5,vI ((l1++[x]).length:Int))] [] gz (fun b hb=>hγ0 b hb) (ih (l1++[x],l3,m3) ⟨(by show L=(l1++[_])++l3;rw [hI1];simp),(by show M=(l1++[_])++m3;rw [hI2,← hxy];simp)⟩ lS1)
theorem qO (L M:List Vr) (a1 a2:Option Addr) (n1 n2 cap1 cap2:Nat) (xs1 xs2:List Value) (w:World) (hn1:n1=L.length) (hn2:n2=M.length) (hbd:n1≤1099511627776)
  (hsl1:Sy.SlAt (·<w.heap.size) w a1 n1 3 xs1) (hsl2:Sy.SlAt (·<w.heap.size) w a2 n2 3 xs2) (hks1:LsAt VrAt L xs1) (hks2:LsAt VrAt M xs2):
  CB 28 #[.slice a1 n1 cap1,.slice a2 n2 cap2] w (.bool (bY L M)):=by
 refine eN [.slice a1 n1 cap1,.slice a2 n2 cap2] Tryz.func28 (fun γ0 hγ0=>?_)
 refine rk ?_
 refine cJ (b:=!(intEq (n1:Int) (n2:Int))) (by kernel_rfl) (fun hnn=>?_) (fun hnn=>?_)
 ·
  refine rs [] 60 2 ?_
  refine gR (.bool false) (fun W hk=>⟨?_,hk.below⟩)
  rw [b9]
  intro h
  rw [intEq_eq] at hnn;simp_all
 have hnn1:n1=n2:=by rw [intEq_eq] at hnn;have:(n1:Int)=(n2:Int):=(by simpa using hnn);omega
 refine rk ?_
 refine cF ?_
 refine cZ (fun i:List Vr×List Vr×List Vr=>i.2.1.length) (fun i=>L=i.1++i.2.1∧M=i.1++i.2.2) (fun i=>⟨mkT [(0,vL a1 n1 cap1),(1,vL a2 n2 cap2),(5,vI (i.1.length:Int))],mkH [],gz,[]⟩)
  ([],L,M) ⟨rfl,rfl⟩ (by kernel_rfl)
  (fun h=>gU _ [(0,vL a1 n1 cap1),(1,vL a2 n2 cap2),(5,vI (([]:List Vr).length:Int))] [] gz (fun b hb=>hγ0 b hb) h) ?_
 rintro ⟨l1,l2,m2⟩ ⟨hI1,hI2⟩ ih
 simp only at hI1 hI2
 have hq1:n1=l1.length+l2.length:=by rw [hn1,hI1,aA]
 have hq2:n2=l1.length+m2.length:=by rw [hn2,hI2,aA]
 refine rk ?_
 cases l2 with
 | nil=>
   obtain rfl:m2=[]:=aF (by simp only [aD] at hq1;omega)
   refine ky (l1.length:Int) (n1:Int) (by rw [hq1];simp) (rk ?_)
   refine gR (.bool true) (fun W hk=>⟨?_,hk.below⟩)
   rw [sameB_t.2 (by rw [hI1,hI2])]
 | cons x l3=>
   obtain ⟨y,m3,rfl⟩:∃ y m3,m2=y::m3:=by
    cases m2 with
    | nil=>simp only [aD,aB] at hq1 hq2;omega
    | cons a b=>exact ⟨a,b,rfl⟩
   have hin1:l1.length<n1:=by rw [hq1,aB];omega
   have hin2:l1.length<n2:=by omega
   have hks1':=hks1
   have hks2':=hks2
   rw [hI1] at hks1'
   rw [hI2] at hks2'
   obtain ⟨c1,hc1,hcell1⟩:=hks1'.at_ (fun _ _ h=>h.len)
   obtain ⟨c2,hc2,hcell2⟩:=hks2'.at_ (fun _ _ h=>h.len)
   refine kx (l1.length:Int) (n1:Int) (by omega) (rk ?_)
   obtain rfl:c1=[nT x.name,n8 x.ty,n6 x.bits]:=hc1
   obtain rfl:c2=[nT y.name,n8 y.ty,n6 y.bits]:=hc2
   refine kN cP (by kernel_rfl) ?_
   refine bZ [] 60 ?_
   refine qI 23 47 cap1 l1.length hsl1 hin1 ?_
   refine bZ [] 60 ?_
   refine qD 47 3 [nT x.name,n8 x.ty,n6 x.bits] l1.length 0 hsl1 rfl hcell1 ?_
   refine bZ [] 60 ?_
   refine qI 23 47 cap2 l1.length hsl2 hin2 ?_
   refine bZ [] 60 ?_
   refine qD 47 3 [nT y.name,n8 y.ty,n6 y.bits] l1.length 0 hsl2 rfl hcell2 ?_
   refine bZ [25] 60 ?_
   refine qV (.bool (!(uF x y))) (S:=do eqGuard .neq 47 (.tmp 20) (.tmp 24) (.agg #[nT x.name,n8 x.ty,n6 x.bits]) (.agg #[nT y.name,n8 y.ty,n6 y.bits]);binOp .neq 47 (.agg #[nT x.name,n8 x.ty,n6 x.bits]) (.agg #[nT y.name,n8 y.ty,n6 y.bits])) (fun W _=>zQ _ _ _ _ W) ?_
   refine bZ [] 60 ?_
   refine qE ?_
   refine rk ?_
   refine cJ (b:=!(uF x y)) (by kernel_rfl) (fun hss=>?_) (fun hss=>?_)
   ·
    have hne:x≠y:=fun h=>by rw [vrEq_t.2 h] at hss;cases hss
    refine rs [] 60 2 ?_
    refine gR (.bool false) (fun W hk=>⟨?_,hk.below⟩)
    rw [b9]
    intro h
    rw [hI1,hI2] at h
    have h2:=(List.cons.inj (aZ h)).1
    exact hne h2
   ·
    have hxy:x=y:=vrEq_t.1 (by simpa using hss)
    refine rs [] 60 2 ?_
    refine gJ 5 l1 x (by omega) ?_
    exact gU _ [(0,vL a1 n1 cap1),(1,vL a2 n2 cap2),(5,vI ((l1++[x]).length:Int))] [] gz (fun b hb=>hγ0 b hb) (ih (l1++[x],l3,m3) ⟨(by show L=(l1++[_])++l3;rw [hI1];simp),(by show M=(l1++[_])++m3;rw [hI2,← hxy];simp)⟩ lS1)
end
end Go.Proofs.YtijopiphkgddhaaGreatDoor
