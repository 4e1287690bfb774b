/- Slices that are written down, and grow. -/
import Derived.Test.YtneenfjffejnoaaGreatAEthree
set_option linter.unusedVariables false
set_option linter.unusedSimpArgs false
set_option linter.unusedSectionVars false
namespace AE
open Go Go.RowKit
set_option linter.unusedVariables false
def LT (r:Nat) (h:H) (e:TypeId) (sz n:Nat) (cs:List Value) (w:Option Addr) (c:Nat):Prop:=(w=some ⟨r,0,none⟩/\c=n/\n<far/\cs.length=n*sz/\h.get r=some (.cells cs e))\/(c=0/\N5 r h e sz n cs w)
theorem LT.frame {r n sz c:Nat}{e:TypeId}{h h':H}{cs:List Value}{w:Option Addr}(k:LT r h e sz n cs w c) (hr:h'.get r=h.get r):LT r h' e sz n cs w c:=
 k.elim (fun⟨a,b,c,d,e⟩=>.inl ⟨a,b,c,d,hr.trans e⟩) fun⟨hc,G⟩=>.inr ⟨hc,G.frame hr⟩
theorem LT.cap {r n sz c:Nat}{e:TypeId}{h:H}{cs:List Value}{w:Option Addr}(k:LT r h e sz n cs w c):c<far:=by
 rcases k with⟨-,rfl,h1, -⟩|⟨rfl, -⟩
 ·exact h1
 ·unfold far;omega
theorem LT.els {r n sz c:Nat}{e:TypeId}{h:H}{f:Nat->List Value}{w:Option Addr}(k:LT r h e sz n (rowsOf f n) w c) (hf:∀i,(f i).length=sz):∃a,w=some a/\a.block=r/\JP h a n sz f:=by
 rcases k with⟨rfl,rfl, -, -,hg⟩|⟨rfl,G⟩
 ·refine⟨_,rfl,rfl,fun i hi=>?_⟩
  have:=EN (g:=f) (w:=sz) hf hi [] [] (a:=0+i*sz) (by simp)
  exact CP (off:=0+i*sz) hg (by simpa using this)
 ·obtain⟨a,hv,hb,hld, -⟩:=G.load
  refine⟨a,hv,hb,fun i hi=>hld _ _ _ ?_⟩
  have:=EN (g:=f) (w:=sz) hf hi [] [] (a:=i*sz) (by simp)
  simpa using this
section
variable {P:Program}{lo Br:Nat}{ts:Ts}{h:H}{k:Value->H->Prop}
theorem V8 {r n m sz bytes c:Nat}{e:TypeId}{cs nc:List Value}{w:Option Addr}{sx x:BH}(G:LT r h e sz n cs w c) (hsv:ev ts sx= .slice w n c) (C:Cells h sz m (ev ts x) nc) (hm:0<m) (hlo:lo<=Br) (hlr:lo<=r) (hsm:(n+m+1) * (bytes+1)<=1099511627776)
 (hr:∀w' r' h',(r'=r\/r'=Br)->(∀s,s≠r'->h'.get s=h.get s)->h'.next=h.next->LT r' h' e sz (n+m) (cs++nc) w' 0->k (.slice w' (n+m) 0) h'):DT P lo Br ts h (.append e sz bytes sx x) k:=by
 rcases G with⟨rfl,rfl,hf,hl,hg⟩|⟨rfl,G⟩
 ·apply aK (n:=c) (m:=m) (b:=Br) (cs:=cs) (nc:=nc) (c:=c)
  case hsv=>exact hsv
  case G=>exact⟨hl,.inr ⟨_,rfl,hf,.inl ⟨rfl,rfl⟩,CP (off:=0) hg (by rw[<-hl];unfold cut;simp)⟩⟩
  case C=>exact C
  case hm=>exact hm
  case hb=>omega
  case hsm=>exact hsm
  intro v' row G'
  obtain⟨r4,G4,hr4,yD⟩:=G'.t6 Al
  obtain rfl:r4=Br:=by omega
  exact hr v' r4 _ (.inr rfl) (fun s hs=>by simp[H.put,hs]) rfl (.inr ⟨rfl,G4⟩)
 ·apply Sm (r:=r) (n:=n) (m:=m) (cs:=cs) (nc:=nc)
  case hsv=>exact hsv
  case G=>exact G
  case C=>exact C
  case hm=>exact hm
  case hlo=>exact hlr
  case hsm=>exact hsm
  intro v' row G5
  exact hr v' r _ (.inl rfl) (fun s hs=>by simp[H.put,hs]) rfl (.inr ⟨rfl,G5⟩)
end
end AE
