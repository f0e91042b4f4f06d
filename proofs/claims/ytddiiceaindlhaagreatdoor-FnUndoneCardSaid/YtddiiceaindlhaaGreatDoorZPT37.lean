/- Plain laws: drawn sheets with changes, drawn pairs, drawn threes. -/
import Derived.Test.YtddiiceaindlhaaGreatDoorZP6
set_option linter.unusedVariables false
set_option linter.unusedSimpArgs false
set_option linter.unusedSectionVars false
namespace Go.Proofs.YtddiiceaindlhaaGreatDoor.Abs
open Go
section
variable {c:List Int} (hc:G3 c)
include hc
theorem Kf {i:Int} (h2:0≤i) (h3:i≤(c.length:Int)):Ok (fun z=>(0≤z.1.1∧z.1.1≤255)∧Rd c z.2.1) (rJ c i):=by
 have:=sk hc (s:=(c,i,())) ⟨rfl,h2,h3⟩
 rw[wi] at this
 rw[Ho]
 exact this
theorem G7 {n i:Int} (h2:0≤i) (h3:i≤(c.length:Int)) (hn:1≤n):Ok (fun z=>(0≤z.1.1∧z.1.1 < n)∧Rd c z.2.1) (qk n c i):=by
 rw[Fl]
 refine Ok.ite (fun _=>Ok.one ⟨⟨Int.le_refl _,by show(0:Int) < n; omega⟩,rfl,h2,h3⟩) fun _=>Ok.ite (fun _ => ?_) fun _ => ?_
 ·refine Ok.bnd (Kf hc h2 h3) fun z hz=>Ok.nz (by omega) (Ok.one ⟨⟨Int.tmod_nonneg _ hz.1.1,Int.tmod_lt_of_pos _ (by omega)⟩,hz.2⟩)
 ·refine Ok.bnd (Kf hc h2 h3) fun z hz=>Ok.bnd (sk hc hz.2) fun y hy => ?_
  have h1:=hz.1
  have h2:=hy.1
  rw[wr (n:=z.1.1*256) (by omega) (by omega),wr (by omega) (by omega)]
  exact Ok.nz (by omega) (Ok.one ⟨⟨Int.tmod_nonneg _ (by omega),Int.tmod_lt_of_pos _ (by omega)⟩,hy.2⟩)
theorem Pv {n:Nat} {i:Int} (hn:n≤900) (h2:0≤i) (h3:i≤(c.length:Int)):Ok (fun z=>wK z.1.1∧Rd c z.2.1) (ki (n:Int) c i):=by
 rw[Fp,wr (by omega) (by omega)]
 refine Ok.bnd (G7 hc h2 h3 (by omega)) fun z hz => ?_
 rw[show z.1.1=(z.1.1.toNat:Int) by omega]
 exact zW hc _ (by omega) hz.2 ⟨Nat.zero_le _,fun c hc=>by cases hc⟩
end
def Pw (l:List dk):Prop:=l.length≤240 ∧ ∀ c∈l,c.2.2.1.size≤6401
theorem Nz {s:List ab} (h:aH s=true) (q:ai):(bp q s).size≤200:=by
 rcases nh (q:=q) (eB h) with⟨c,hc,_,e⟩ | ⟨_,e⟩
 ·rw[←e]; exact pd h c hc
 ·rw[e]; decide
theorem Pw.set {l:List dk} (h:Pw l) {i:Nat} {x:dk} (hx:x.2.2.1.size≤6401):Pw (l.set i x):=by
 refine⟨by rw[List.length_set]; exact h.1,fun c hc => ?_⟩
 rcases List.mem_or_eq_of_mem_set hc with k | rfl
 ·exact h.2 c k
 ·exact hx
theorem Pw.at {l:List dk} (h:Pw l) {i:Nat}:(l.getD i (iV.dflt)).2.2.1.size≤6401:=by
 rw[List.getD_eq_getElem?_getD]
 by_cases e:i < l.length
 ·rw[List.getElem?_eq_getElem e]; exact h.2 _ (List.getElem_mem e)
 ·rw[List.getElem?_eq_none (by omega)]; decide
end Go.Proofs.YtddiiceaindlhaaGreatDoor.Abs
