/- The table holds what the program's functions compile to. -/
import Derived.Test.YtgiebkbbnjnplaaGreatDoorAbTab
import Derived.Test.YtgiebkbbnjnplaaGreatDoorAbIRC0
import Derived.Test.YtgiebkbbnjnplaaGreatDoorAbIRC1
import Derived.Test.YtgiebkbbnjnplaaGreatDoorAbDraw7
set_option maxRecDepth 100000
namespace Go.Proofs
open Go.Ab Go

def Listed1 (l : List (Nat × AFunc)) : Prop := ∀ p ∈ l, ∃ fn, Tryz.prog.funcs[p.1]? = some fn ∧ compFunc Tryz.prog fn = some p.2
theorem listed_nil : Listed1 [] := fun _ h => by cases h
theorem listed_cons {k : Nat} {a : AFunc} {l : List (Nat × AFunc)} {fn : Func} (h1 : Tryz.prog.funcs[k]? = some fn) (h2 : compFunc Tryz.prog fn = some a) (h : Listed1 l) : Listed1 ((k, a) :: l) := by
  intro p hp
  cases hp with
  | head => exact ⟨fn, h1, h2⟩
  | tail _ hp => exact h p hp

theorem listed : Listed1 fnList :=
  listed_cons Tryz.func3 c3 <|
  listed_cons Tryz.func5 c5 <|
  listed_cons Tryz.func6 c6 <|
  listed_cons Tryz.func7 c7 <|
  listed_cons Tryz.func8 c8 <|
  listed_cons Tryz.func9 c9 <|
  listed_cons Tryz.func10 c10 <|
  listed_cons Tryz.func11 c11 <|
  listed_cons Tryz.func12 c12 <|
  listed_cons Tryz.func13 c13 <|
  listed_cons Tryz.func14 c14 <|
  listed_cons Tryz.func15 c15 <|
  listed_cons Tryz.func16 c16 <|
  listed_cons Tryz.func17 c17 <|
  listed_cons Tryz.func18 c18 <|
  listed_cons Tryz.func19 c19 <|
  listed_cons Tryz.func20 c20 <|
  listed_cons Tryz.func21 c21 <|
  listed_cons Tryz.func22 c22 <|
  listed_cons Tryz.func23 c23 <|
  listed_cons Tryz.func24 c24 <|
  listed_cons Tryz.func28 c28 <|
  listed_cons Tryz.func35 c35 <|
  listed_cons Tryz.func37 c37 <|
  listed_cons Tryz.func43 c43 <|
  listed_cons Tryz.func44 c44 <|
  listed_cons Tryz.func45 c45 <|
  listed_cons Tryz.func46 c46 <|
  listed_cons Tryz.func47 c47 <|
  listed_cons Tryz.func50 c50 <|
  listed_cons Tryz.func51 c51 <|
  listed_cons Tryz.func52 c52 <|
  listed_cons Tryz.func53 c53 <|
  listed_cons Tryz.func54 c54 <|
  listed_cons Tryz.func56 c56 <|
  listed_cons Tryz.func57 c57 <|
  listed_cons Tryz.func58 c58 <|
  listed_cons Tryz.func59 c59 <|
  listed_cons Tryz.func60 c60 <|
  listed_cons Tryz.func61 c61 <|
  listed_cons Tryz.func64 c64 <|
  listed_cons Tryz.func67 c67 <|
  listed_cons Tryz.func68 c68 <|
  listed_cons Tryz.func69 c69 <|
  listed_cons Tryz.func70 c70 <|
  listed_cons Tryz.func71 c71 <|
  listed_cons Tryz.func72 c72 <|
  listed_cons Tryz.func77 c77 <|
  listed_cons Tryz.func78 c78 <|
  listed_cons Tryz.func79 c79 <|
  listed_cons Tryz.func81 c81 <|
  listed_cons Tryz.func82 c82 <|
  listed_cons Tryz.func83 c83 <|
  listed_cons Tryz.func84 c84 <|
  listed_cons Tryz.func85 c85 <|
  listed_cons Tryz.func86 c86 <|
  listed_cons Tryz.func87 c87 <|
  listed_cons Tryz.func89 c89 <|
  listed_cons Tryz.func90 c90 <|
  listed_cons Tryz.func91 c91 <|
  listed_cons Tryz.func92 c92 <|
  listed_cons Tryz.func93 c93 <|
  listed_cons Tryz.func94 c94 <|
  listed_cons Tryz.func96 c96 <|
  listed_cons Tryz.func97 c97 <|
  listed_cons Tryz.func98 c98 <|
  listed_cons Tryz.func100 c100 <|
  listed_cons Tryz.func101 c101 <|
  listed_cons Tryz.func102 c102 <|
  listed_cons Tryz.func103 c103 <|
  listed_cons Tryz.func104 c104 <|
  listed_cons Tryz.func106 c106 <|
  listed_cons Tryz.func107 c107 <|
  listed_cons Tryz.func108 c108 <|
  listed_cons Tryz.func109 c109 <|
  listed_cons Tryz.func110 c110 <|
  listed_cons Tryz.func111 c111 <|
  listed_cons Tryz.func112 c112 <|
  listed_cons Tryz.func113 c113 <|
  listed_cons Tryz.func114 c114 <|
  listed_cons Tryz.func115 c115 <|
  listed_cons Tryz.func120 c120 <|
  listed_cons Tryz.func121 c121 <|
  listed_cons Tryz.func122 c122 <|
  listed_cons Tryz.func123 c123 <|
  listed_cons Tryz.func124 c124 <|
  listed_cons Tryz.func125 c125 <|
  listed_cons Tryz.func126 c126 <|
  listed_cons Tryz.func127 c127 <|
  listed_cons Tryz.func128 c128 <|
  listed_cons Tryz.func129 c129 <|
  listed_cons Tryz.func130 c130 <|
  listed_cons Tryz.func131 c131 <|
  listed_cons Tryz.func132 c132 <|
  listed_cons Tryz.func134 c134 <|
  listed_cons Tryz.func135 c135 <|
  listed_cons Tryz.func136 c136 <|
  listed_cons Tryz.func137 c137 <|
  listed_cons Tryz.func138 c138 <|
  listed_cons Tryz.func140 c140 <|
  listed_cons Tryz.func141 c141 <|
  listed_cons Tryz.func144 c144 <|
  listed_cons Tryz.func145 c145 <|
  listed_cons Tryz.func146 c146 <|
  listed_cons Tryz.func147 c147 <|
  listed_cons Tryz.func148 c148 <|
  listed_cons Tryz.func149 c149 <|
  listed_cons Tryz.func150 c150 <|
  listed_cons Tryz.func154 c154 <|
  listed_cons Tryz.func155 c155 <|
  listed_cons Tryz.func156 c156 <|
  listed_cons Tryz.func157 c157 <|
  listed_cons Tryz.func158 c158 <|
  listed_cons Tryz.func159 c159 <|
  listed_cons Tryz.func160 c160 <|
  listed_cons Tryz.func161 c161 <|
  listed_cons Tryz.func162 c162 <|
  listed_cons Tryz.func164 c164 <|
  listed_cons Tryz.func168 c168 <|
  listed_cons Tryz.func169 c169 <|
  listed_cons Tryz.func170 c170 <|
  listed_cons Tryz.func171 c171 <|
  listed_cons Tryz.func172 c172 <|
  listed_cons Tryz.func176 c176 <|
  listed_cons Tryz.func179 c179 <|
  listed_cons Tryz.func180 c180 <|
  listed_cons Tryz.func181 c181 <|
  listed_cons Tryz.func184 c184 <|
  listed_cons Tryz.func186 c186 <|
  listed_cons Tryz.func187 c187 <|
  listed_cons Tryz.func188 c188 <|
  listed_cons Tryz.func189 c189 <|
  listed_cons Tryz.func190 c190 <|
  listed_cons Tryz.func191 c191 <|
  listed_cons Tryz.func192 c192 <|
  listed_cons Tryz.func194 c194 <|
  listed_cons Tryz.func195 c195 <|
  listed_cons Tryz.func196 c196 <|
  listed_cons Tryz.func197 c197 <|
  listed_cons Tryz.func198 c198 <|
  listed_cons Tryz.func199 c199 <|
  listed_cons Tryz.func202 c202 <|
  listed_cons Tryz.func203 c203 <|
  listed_cons Tryz.func204 c204 <|
  listed_cons Tryz.func206 c206 <|
  listed_cons Tryz.func207 c207 <|
  listed_cons Tryz.func208 c208 <|
  listed_cons Tryz.func210 c210 <|
  listed_cons Tryz.func211 c211 <|
  listed_cons Tryz.func212 c212 <|
  listed_cons Tryz.func216 c216 <|
  listed_cons Tryz.func217 c217 <|
  listed_cons Tryz.func218 c218 <|
  listed_cons Tryz.func219 c219 <|
  listed_cons Tryz.func220 c220 <|
  listed_cons Tryz.func221 c221 <|
  listed_cons Tryz.func222 c222 <|
  listed_cons Tryz.func223 c223 <|
  listed_cons Tryz.func224 c224 <|
  listed_cons Tryz.func228 c228 <|
  listed_cons Tryz.func229 c229 <|
  listed_cons Tryz.func230 c230 <|
  listed_cons Tryz.func231 c231 <|
  listed_cons Tryz.func232 c232 <|
  listed_cons Tryz.func235 c235 <|
  listed_cons Tryz.func236 c236 <|
  listed_cons Tryz.func237 c237 <|
  listed_cons Tryz.func238 c238 <|
  listed_cons Tryz.func239 c239 <|
  listed_cons Tryz.func240 c240 <|
  listed_cons Tryz.func241 c241 <|
  listed_cons Tryz.func245 c245 <|
  listed_cons Tryz.func246 c246 <|
  listed_cons Tryz.func247 c247 <|
  listed_cons Tryz.func248 c248 <|
  listed_cons Tryz.func249 c249 <|
  listed_cons Tryz.func251 c251 <|
  listed_cons Tryz.func254 c254 <|
  listed_cons Tryz.func255 c255 <|
  listed_cons Tryz.func256 c256 <|
  listed_cons Tryz.func264 c264 <|
  listed_cons Tryz.func268 c268 <|
  listed_cons Tryz.func269 c269 <|
  listed_cons Tryz.func270 c270 <|
  listed_cons Tryz.func271 c271 <|
  listed_cons Tryz.func272 c272 <|
  listed_cons Tryz.func273 c273 <|
  listed_cons Tryz.func274 c274 <|
  listed_cons Tryz.func275 c275 <|
  listed_cons Tryz.func278 c278 <|
  listed_cons Tryz.func283 c283 <|
  listed_cons Tryz.func284 c284 <|
  listed_cons Tryz.func285 c285 <|
  listed_cons Tryz.func286 c286 <|
  listed_cons Tryz.func288 c288 <|
  listed_cons Tryz.func290 c290 <|
  listed_cons Tryz.func300 c300 <|
  listed_cons Tryz.func301 c301 <|
  listed_nil

theorem setList_get : ∀ (l : List (Nat × AFunc)) (f : Nat) (a : AFunc), T.get (List.rec (motive := fun _ => T AFunc) .leaf (fun p _ ih => T.set ih p.1 (some p.2)) l) f = some a → (f, a) ∈ l
  | [], f, a, h => by cases h
  | p :: l, f, a, h => by
    have h' : T.get (T.set (List.rec (motive := fun _ => T AFunc) .leaf (fun p _ ih => T.set ih p.1 (some p.2)) l) p.1 (some p.2)) f = some a := h
    rw [T.get_set] at h'
    by_cases e : f = p.1
    · rw [if_pos e] at h'
      cases h'
      rw [e]
      exact List.mem_cons_self
    · rw [if_neg e] at h'
      exact List.mem_cons_of_mem _ (setList_get l f a h')

theorem tblOk : TblOk Tryz.prog fnTab := by
  intro f a h
  obtain ⟨fn, h1, h2⟩ := listed (f, a) (setList_get fnList f a h)
  exact ⟨fn, h1, h2⟩

theorem mixed : Tryz.prog.follows .mixedOrders = true := by kernel_rfl
/-- What the evaluator says of the program's calls holds of them. -/
theorem evTryz (rounds m : Nat) : CallOk Tryz.prog (evCall fnTab rounds m) := evCall_ok mixed tblOk rounds m

end Go.Proofs
