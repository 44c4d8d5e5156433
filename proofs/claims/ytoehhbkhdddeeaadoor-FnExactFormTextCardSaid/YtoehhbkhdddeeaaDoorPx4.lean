/- Parts of the proof: Types. -/
import Derived.Test.YtoehhbkhdddeeaaDoorPx3
section
namespace Go.Proofs.YtoehhbkhdddeeaaDoor
open Go Go.RowKit
set_option linter.unusedVariables false
set_option linter.unusedSimpArgs false
set_option maxRecDepth 100000
set_option maxHeartbeats 16000000
def zn (n : Int) : List CD := [.int n]
def zaV (ns : List Int) : List CD := [.sl (ns.map zn)]
structure Sy where
 name : ByteArray
 args : List Int
 sort : Int
def Sy.cd (x : Sy) : List CD := [.str x.name] ++ ([.sl (x.args.map zn)] ++ [.int x.sort])
structure Sg where
 syms : List Sy
def Sg.cd (x : Sg) : List CD := [.sl (x.syms.map Sy.cd)]
structure Eqn where
 a : Tm
 b : Tm
def Eqn.cd (x : Eqn) : List CD := x.a.cd ++ x.b.cd
structure Stp where
 a : Int
 b : Int
 given : Int
def Stp.cd (x : Stp) : List CD := [.int x.a] ++ ([.int x.b] ++ [.int x.given])
inductive Wy where
 | mk (rule : Int) (n : Int) (t : Tm) (kids : List Wy)
def Wy.rule : Wy → Int | .mk rule _ _ _ => rule
def Wy.n : Wy → Int | .mk _ n _ _ => n
def Wy.t : Wy → Tm | .mk _ _ t _ => t
def Wy.kids : Wy → List Wy | .mk _ _ _ kids => kids
def Wy.cd : Wy → List CD
 | .mk rule n t kids => [.int rule] ++ ([.int n] ++ (t.cd ++ [.sl (kids.map Wy.cd)]))
theorem Wy.cd_eq (x : Wy) : x.cd = [.int x.rule] ++ ([.int x.n] ++ (x.t.cd ++ [.sl (x.kids.map Wy.cd)])) := by cases x; simp [Wy.cd, Wy.rule, Wy.n, Wy.t, Wy.kids]
structure Atm where
 kind : Int
 a : Tm
 b : Tm
 nums : List Tm
 times : List Int
 bound : Int
 strict : Bool
def Atm.cd (x : Atm) : List CD := [.int x.kind] ++ (x.a.cd ++ (x.b.cd ++ ([.sl (x.nums.map Tm.cd)] ++ ([.sl (x.times.map zn)] ++ ([.int x.bound] ++ [.bool x.strict])))))
structure Lt where
 atom : Atm
 no : Bool
def Lt.cd (x : Lt) : List CD := x.atom.cd ++ [.bool x.no]
inductive Fm where
 | mk (kind : Int) (lit : Lt) (kids : List Fm)
def Fm.kind : Fm → Int | .mk kind _ _ => kind
def Fm.lit : Fm → Lt | .mk _ lit _ => lit
def Fm.kids : Fm → List Fm | .mk _ _ kids => kids
def Fm.cd : Fm → List CD
 | .mk kind lit kids => [.int kind] ++ (lit.cd ++ [.sl (kids.map Fm.cd)])
theorem Fm.cd_eq (x : Fm) : x.cd = [.int x.kind] ++ (x.lit.cd ++ [.sl (x.kids.map Fm.cd)]) := by cases x; simp [Fm.cd, Fm.kind, Fm.lit, Fm.kids]
def fmsCd (fs : List Fm) : List CD := [.sl (fs.map Fm.cd)]
inductive Cs where
 | mk (kind : Int) (n : Int) (why : Wy) (times : List Int) (a : Tm) (b : Tm) (kids : List Cs)
def Cs.kind : Cs → Int | .mk kind _ _ _ _ _ _ => kind
def Cs.n : Cs → Int | .mk _ n _ _ _ _ _ => n
def Cs.why : Cs → Wy | .mk _ _ why _ _ _ _ => why
def Cs.times : Cs → List Int | .mk _ _ _ times _ _ _ => times
def Cs.a : Cs → Tm | .mk _ _ _ _ a _ _ => a
def Cs.b : Cs → Tm | .mk _ _ _ _ _ b _ => b
def Cs.kids : Cs → List Cs | .mk _ _ _ _ _ _ kids => kids
def Cs.cd : Cs → List CD
 | .mk kind n why times a b kids => [.int kind] ++ ([.int n] ++ (why.cd ++ ([.sl (times.map zn)] ++ (a.cd ++ (b.cd ++ [.sl (kids.map Cs.cd)])))))
theorem Cs.cd_eq (x : Cs) : x.cd = [.int x.kind] ++ ([.int x.n] ++ (x.why.cd ++ ([.sl (x.times.map zn)] ++ (x.a.cd ++ (x.b.cd ++ [.sl (x.kids.map Cs.cd)]))))) := by cases x; simp [Cs.cd, Cs.kind, Cs.n, Cs.why, Cs.times, Cs.a, Cs.b, Cs.kids]
structure Lm where
 marks : List Int
 case : Cs
def Lm.cd (x : Lm) : List CD := [.sl (x.marks.map zn)] ++ x.case.cd
structure Pp where
 lemmas : List Lm
 log : List (List Int)
def Pp.cd (x : Pp) : List CD := [.sl (x.lemmas.map Lm.cd)] ++ [.sl (x.log.map zaV)]
structure Stk where
 sig : Sg
 levels : List (List Fm)
def Stk.cd (x : Stk) : List CD := x.sig.cd ++ [.sl (x.levels.map fmsCd)]
structure Cnf where
 many : Int
 list : List (List Int)
def Cnf.cd (x : Cnf) : List CD := [.int x.many] ++ [.sl (x.list.map zaV)]
structure Ln where
 coefs : List Int
 bound : Int
 strict : Bool
def Ln.cd (x : Ln) : List CD := [.sl (x.coefs.map zn)] ++ ([.int x.bound] ++ [.bool x.strict])
structure Rt where
 n : Int
 d : Int
def Rt.cd (x : Rt) : List CD := [.int x.n] ++ [.int x.d]
structure Rw where
 name : ByteArray
 args : List Rt
 val : Rt
def Rw.cd (x : Rw) : List CD := [.str x.name] ++ ([.sl (x.args.map Rt.cd)] ++ x.val.cd)
structure Md where
 rows : List Rw
def Md.cd (x : Md) : List CD := [.sl (x.rows.map Rw.cd)]
end Go.Proofs.YtoehhbkhdddeeaaDoor
end
