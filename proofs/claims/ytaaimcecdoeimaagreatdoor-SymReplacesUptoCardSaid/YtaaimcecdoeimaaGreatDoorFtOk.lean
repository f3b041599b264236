/-
  The table holds translations.
-/
import Derived.Test.YtaaimcecdoeimaaGreatDoorMachG
import Derived.Test.YtaaimcecdoeimaaGreatDoorTab
import Derived.Test.YtaaimcecdoeimaaGreatDoorTrA
import Derived.Test.YtaaimcecdoeimaaGreatDoorTrB
import Derived.Test.YtaaimcecdoeimaaGreatDoorTrC
import Derived.Test.YtaaimcecdoeimaaGreatDoorTrD
namespace Go.Abs.Sy
open Go.Proofs
def InP (p : Nat × AFunc) : Prop := ∃ F, Tryz.prog.funcs[p.1]? = some F ∧ trFunc Tryz.prog p.2.lm F = some p.2
def All (l : List (Nat × AFunc)) : Prop := ∀ p ∈ l, InP p
theorem All.nil : All [] := fun p h => by cases h
theorem All.cons {p : Nat × AFunc} {l : List (Nat × AFunc)} (hp : InP p) (hl : All l) : All (p :: l) := fun q h => by
  rcases List.mem_cons.1 h with rfl | h
  · exact hp
  · exact hl q h
theorem look_mem {α : Type} : ∀ (l : List (Nat × α)) {f : Nat} {a : α}, look l f = some a → (f, a) ∈ l
  | [], _, _, h => by cases h
  | (n, b) :: l, f, a, h => by
    unfold Sy.look at h
    split at h
    · rename_i e
      cases h
      rw [Nat.eq_of_beq_eq_true e]
      exact List.mem_cons_self
    · exact List.mem_cons_of_mem _ (look_mem l h)
set_option maxRecDepth 100000 in
theorem tabAll : All tab :=
  .cons ⟨_, Tryz.func3, tr3⟩ <|
  .cons ⟨_, Tryz.func4, tr4⟩ <|
  .cons ⟨_, Tryz.func5, tr5⟩ <|
  .cons ⟨_, Tryz.func6, tr6⟩ <|
  .cons ⟨_, Tryz.func7, tr7⟩ <|
  .cons ⟨_, Tryz.func8, tr8⟩ <|
  .cons ⟨_, Tryz.func9, tr9⟩ <|
  .cons ⟨_, Tryz.func10, tr10⟩ <|
  .cons ⟨_, Tryz.func11, tr11⟩ <|
  .cons ⟨_, Tryz.func12, tr12⟩ <|
  .cons ⟨_, Tryz.func13, tr13⟩ <|
  .cons ⟨_, Tryz.func14, tr14⟩ <|
  .cons ⟨_, Tryz.func15, tr15⟩ <|
  .cons ⟨_, Tryz.func16, tr16⟩ <|
  .cons ⟨_, Tryz.func18, tr18⟩ <|
  .cons ⟨_, Tryz.func19, tr19⟩ <|
  .cons ⟨_, Tryz.func20, tr20⟩ <|
  .cons ⟨_, Tryz.func21, tr21⟩ <|
  .cons ⟨_, Tryz.func22, tr22⟩ <|
  .cons ⟨_, Tryz.func23, tr23⟩ <|
  .cons ⟨_, Tryz.func24, tr24⟩ <|
  .cons ⟨_, Tryz.func25, tr25⟩ <|
  .cons ⟨_, Tryz.func26, tr26⟩ <|
  .cons ⟨_, Tryz.func27, tr27⟩ <|
  .cons ⟨_, Tryz.func28, tr28⟩ <|
  .cons ⟨_, Tryz.func29, tr29⟩ <|
  .cons ⟨_, Tryz.func30, tr30⟩ <|
  .cons ⟨_, Tryz.func31, tr31⟩ <|
  .cons ⟨_, Tryz.func32, tr32⟩ <|
  .cons ⟨_, Tryz.func33, tr33⟩ <|
  .cons ⟨_, Tryz.func34, tr34⟩ <|
  .cons ⟨_, Tryz.func35, tr35⟩ <|
  .cons ⟨_, Tryz.func36, tr36⟩ <|
  .cons ⟨_, Tryz.func37, tr37⟩ <|
  .cons ⟨_, Tryz.func38, tr38⟩ <|
  .cons ⟨_, Tryz.func41, tr41⟩ <|
  .cons ⟨_, Tryz.func42, tr42⟩ <|
  .cons ⟨_, Tryz.func43, tr43⟩ <|
  .cons ⟨_, Tryz.func44, tr44⟩ <|
  .cons ⟨_, Tryz.func45, tr45⟩ <|
  .cons ⟨_, Tryz.func46, tr46⟩ <|
  .cons ⟨_, Tryz.func48, tr48⟩ <|
  .cons ⟨_, Tryz.func49, tr49⟩ <|
  .cons ⟨_, Tryz.func50, tr50⟩ <|
  .cons ⟨_, Tryz.func51, tr51⟩ <|
  .cons ⟨_, Tryz.func64, tr64⟩ <|
  .cons ⟨_, Tryz.func65, tr65⟩ <|
  .cons ⟨_, Tryz.func66, tr66⟩ <|
  .cons ⟨_, Tryz.func68, tr68⟩ <|
  .cons ⟨_, Tryz.func69, tr69⟩ <|
  .cons ⟨_, Tryz.func70, tr70⟩ <|
  .cons ⟨_, Tryz.func71, tr71⟩ <|
  .cons ⟨_, Tryz.func74, tr74⟩ <|
  .cons ⟨_, Tryz.func75, tr75⟩ <|
  .cons ⟨_, Tryz.func76, tr76⟩ <|
  .cons ⟨_, Tryz.func77, tr77⟩ <|
  .cons ⟨_, Tryz.func78, tr78⟩ <|
  .cons ⟨_, Tryz.func79, tr79⟩ <|
  .cons ⟨_, Tryz.func80, tr80⟩ <|
  .cons ⟨_, Tryz.func83, tr83⟩ <|
  .cons ⟨_, Tryz.func85, tr85⟩ <|
  .cons ⟨_, Tryz.func86, tr86⟩ <|
  .cons ⟨_, Tryz.func87, tr87⟩ <|
  .cons ⟨_, Tryz.func88, tr88⟩ <|
  .cons ⟨_, Tryz.func90, tr90⟩ <|
  .cons ⟨_, Tryz.func91, tr91⟩ <|
  .cons ⟨_, Tryz.func92, tr92⟩ <|
  .cons ⟨_, Tryz.func95, tr95⟩ <|
  .cons ⟨_, Tryz.func101, tr101⟩ <|
  .cons ⟨_, Tryz.func102, tr102⟩ <|
  .cons ⟨_, Tryz.func103, tr103⟩ <|
  .cons ⟨_, Tryz.func104, tr104⟩ <|
  .cons ⟨_, Tryz.func105, tr105⟩ <|
  .cons ⟨_, Tryz.func106, tr106⟩ <|
  .cons ⟨_, Tryz.func107, tr107⟩ <|
  .cons ⟨_, Tryz.func109, tr109⟩ <|
  .cons ⟨_, Tryz.func110, tr110⟩ <|
  .cons ⟨_, Tryz.func111, tr111⟩ <|
  .cons ⟨_, Tryz.func113, tr113⟩ <|
  .cons ⟨_, Tryz.func114, tr114⟩ <|
  .cons ⟨_, Tryz.func115, tr115⟩ <|
  .cons ⟨_, Tryz.func116, tr116⟩ <|
  .cons ⟨_, Tryz.func117, tr117⟩ <|
  .cons ⟨_, Tryz.func118, tr118⟩ <|
  .cons ⟨_, Tryz.func119, tr119⟩ <|
  .cons ⟨_, Tryz.func120, tr120⟩ <|
  .cons ⟨_, Tryz.func121, tr121⟩ <|
  .cons ⟨_, Tryz.func126, tr126⟩ <|
  .cons ⟨_, Tryz.func127, tr127⟩ <|
  .cons ⟨_, Tryz.func128, tr128⟩ <|
  .cons ⟨_, Tryz.func129, tr129⟩ <|
  .cons ⟨_, Tryz.func130, tr130⟩ <|
  .cons ⟨_, Tryz.func131, tr131⟩ <|
  .cons ⟨_, Tryz.func132, tr132⟩ <|
  .cons ⟨_, Tryz.func133, tr133⟩ <|
  .cons ⟨_, Tryz.func135, tr135⟩ <|
  .cons ⟨_, Tryz.func136, tr136⟩ <|
  .cons ⟨_, Tryz.func137, tr137⟩ <|
  .cons ⟨_, Tryz.func138, tr138⟩ <|
  .cons ⟨_, Tryz.func139, tr139⟩ <|
  .cons ⟨_, Tryz.func140, tr140⟩ <|
  .cons ⟨_, Tryz.func141, tr141⟩ <|
  .cons ⟨_, Tryz.func142, tr142⟩ <|
  .cons ⟨_, Tryz.func143, tr143⟩ <|
  .cons ⟨_, Tryz.func144, tr144⟩ <|
  .cons ⟨_, Tryz.func145, tr145⟩ <|
  .cons ⟨_, Tryz.func146, tr146⟩ <|
  .cons ⟨_, Tryz.func147, tr147⟩ <|
  .cons ⟨_, Tryz.func149, tr149⟩ <|
  .cons ⟨_, Tryz.func150, tr150⟩ <|
  .cons ⟨_, Tryz.func151, tr151⟩ <|
  .cons ⟨_, Tryz.func156, tr156⟩ <|
  .cons ⟨_, Tryz.func161, tr161⟩ <|
  .cons ⟨_, Tryz.func162, tr162⟩ <|
  .cons ⟨_, Tryz.func163, tr163⟩ <|
  .cons ⟨_, Tryz.func164, tr164⟩ <|
  .cons ⟨_, Tryz.func165, tr165⟩ <|
  .cons ⟨_, Tryz.func166, tr166⟩ <|
  .cons ⟨_, Tryz.func167, tr167⟩ <|
  .cons ⟨_, Tryz.func168, tr168⟩ <|
  .cons ⟨_, Tryz.func169, tr169⟩ <|
  .cons ⟨_, Tryz.func172, tr172⟩ <|
  .cons ⟨_, Tryz.func174, tr174⟩ <|
  .cons ⟨_, Tryz.func178, tr178⟩ <|
  .cons ⟨_, Tryz.func179, tr179⟩ <|
  .cons ⟨_, Tryz.func180, tr180⟩ <|
  .cons ⟨_, Tryz.func181, tr181⟩ <|
  .cons ⟨_, Tryz.func182, tr182⟩ <|
  .cons ⟨_, Tryz.func183, tr183⟩ <|
  .cons ⟨_, Tryz.func184, tr184⟩ <|
  .cons ⟨_, Tryz.func185, tr185⟩ <|
  .cons ⟨_, Tryz.func186, tr186⟩ <|
  .cons ⟨_, Tryz.func188, tr188⟩ <|
  .cons ⟨_, Tryz.func189, tr189⟩ <|
  .cons ⟨_, Tryz.func190, tr190⟩ <|
  .cons ⟨_, Tryz.func193, tr193⟩ <|
  .cons ⟨_, Tryz.func194, tr194⟩ <|
  .cons ⟨_, Tryz.func195, tr195⟩ <|
  .cons ⟨_, Tryz.func196, tr196⟩ <|
  .cons ⟨_, Tryz.func197, tr197⟩ <|
  .cons ⟨_, Tryz.func198, tr198⟩ <|
  .cons ⟨_, Tryz.func199, tr199⟩ <|
  .cons ⟨_, Tryz.func200, tr200⟩ <|
  .cons ⟨_, Tryz.func201, tr201⟩ <|
  .cons ⟨_, Tryz.func202, tr202⟩ <|
  .cons ⟨_, Tryz.func204, tr204⟩ <|
  .cons ⟨_, Tryz.func205, tr205⟩ <|
  .cons ⟨_, Tryz.func206, tr206⟩ <|
  .cons ⟨_, Tryz.func207, tr207⟩ <|
  .cons ⟨_, Tryz.func208, tr208⟩ <|
  .cons ⟨_, Tryz.func210, tr210⟩ <|
  .cons ⟨_, Tryz.func213, tr213⟩ <|
  .cons ⟨_, Tryz.func218, tr218⟩ <|
  .cons ⟨_, Tryz.func219, tr219⟩ <|
  .cons ⟨_, Tryz.func220, tr220⟩ <|
  .cons ⟨_, Tryz.func221, tr221⟩ <|
  .cons ⟨_, Tryz.func222, tr222⟩ <|
  .cons ⟨_, Tryz.func226, tr226⟩ <|
  .cons ⟨_, Tryz.func227, tr227⟩ <|
  .cons ⟨_, Tryz.func228, tr228⟩ <|
  .cons ⟨_, Tryz.func229, tr229⟩ <|
  .cons ⟨_, Tryz.func235, tr235⟩ <|
  .cons ⟨_, Tryz.func236, tr236⟩ <|
  .cons ⟨_, Tryz.func237, tr237⟩ <|
  .cons ⟨_, Tryz.func238, tr238⟩ <|
  .cons ⟨_, Tryz.func239, tr239⟩ <|
  .cons ⟨_, Tryz.func240, tr240⟩ <|
  .cons ⟨_, Tryz.func241, tr241⟩ <|
  .cons ⟨_, Tryz.func242, tr242⟩ <|
  .cons ⟨_, Tryz.func244, tr244⟩ <|
  .cons ⟨_, Tryz.func247, tr247⟩ <|
  .cons ⟨_, Tryz.func250, tr250⟩ <|
  .cons ⟨_, Tryz.func251, tr251⟩ <|
  .cons ⟨_, Tryz.func252, tr252⟩ <|
  .cons ⟨_, Tryz.func253, tr253⟩ <|
  .cons ⟨_, Tryz.func255, tr255⟩ <|
  .cons ⟨_, Tryz.func257, tr257⟩ <|
  .cons ⟨_, Tryz.func260, tr260⟩ <|
  .cons ⟨_, Tryz.func263, tr263⟩ <|
  .cons ⟨_, Tryz.func265, tr265⟩ <|
  .cons ⟨_, Tryz.func266, tr266⟩ <|
  .cons ⟨_, Tryz.func267, tr267⟩ <|
  .cons ⟨_, Tryz.func272, tr272⟩ <|
  .cons ⟨_, Tryz.func278, tr278⟩ <|
  .cons ⟨_, Tryz.func287, tr287⟩ <|
  .cons ⟨_, Tryz.func306, tr306⟩ <|
  .cons ⟨_, Tryz.func310, tr310⟩ <|
  .cons ⟨_, Tryz.func321, tr321⟩ <|
  .cons ⟨_, Tryz.func322, tr322⟩ <|
  .cons ⟨_, Tryz.func323, tr323⟩ <|
  .cons ⟨_, Tryz.func324, tr324⟩ <|
  .cons ⟨_, Tryz.func325, tr325⟩ <|
  .cons ⟨_, Tryz.func326, tr326⟩ <|
  .cons ⟨_, Tryz.func327, tr327⟩ <|
  .cons ⟨_, Tryz.func328, tr328⟩ <|
  .cons ⟨_, Tryz.func331, tr331⟩ <|
  .cons ⟨_, Tryz.func332, tr332⟩ <|
  .cons ⟨_, Tryz.func333, tr333⟩ <|
  .cons ⟨_, Tryz.func334, tr334⟩ <|
  .cons ⟨_, Tryz.func335, tr335⟩ <|
  .cons ⟨_, Tryz.func359, tr359⟩ <|
  .cons ⟨_, Tryz.func360, tr360⟩ <|
  .cons ⟨_, Tryz.func361, tr361⟩ <|
  .cons ⟨_, Tryz.func363, tr363⟩ <|
  .cons ⟨_, Tryz.func364, tr364⟩ <|
  .cons ⟨_, Tryz.func365, tr365⟩ <|
  .cons ⟨_, Tryz.func366, tr366⟩ <|
  .cons ⟨_, Tryz.func367, tr367⟩ <|
  .cons ⟨_, Tryz.func368, tr368⟩ <|
  .cons ⟨_, Tryz.func369, tr369⟩ <|
  .cons ⟨_, Tryz.func370, tr370⟩ <|
  .cons ⟨_, Tryz.func372, tr372⟩ <|
  .cons ⟨_, Tryz.func373, tr373⟩ <|
  .cons ⟨_, Tryz.func374, tr374⟩ <|
  .cons ⟨_, Tryz.func381, tr381⟩ <|
  .cons ⟨_, Tryz.func382, tr382⟩ <|
  .cons ⟨_, Tryz.func383, tr383⟩ <|
  .cons ⟨_, Tryz.func384, tr384⟩ <|
  .cons ⟨_, Tryz.func387, tr387⟩ <|
  .cons ⟨_, Tryz.func388, tr388⟩ <|
  .cons ⟨_, Tryz.func389, tr389⟩ <|
  .cons ⟨_, Tryz.func392, tr392⟩ <|
  .cons ⟨_, Tryz.func393, tr393⟩ <|
  .cons ⟨_, Tryz.func395, tr395⟩ <|
  .cons ⟨_, Tryz.func397, tr397⟩ <|
  .cons ⟨_, Tryz.func409, tr409⟩ <|
  .cons ⟨_, Tryz.func410, tr410⟩ <|
  .cons ⟨_, Tryz.func411, tr411⟩ <|
  .cons ⟨_, Tryz.func412, tr412⟩ <|
  .cons ⟨_, Tryz.func413, tr413⟩ <|
  .cons ⟨_, Tryz.func414, tr414⟩ <|
  .cons ⟨_, Tryz.func415, tr415⟩ <|
  .cons ⟨_, Tryz.func416, tr416⟩ <|
  .cons ⟨_, Tryz.func417, tr417⟩ <|
  .cons ⟨_, Tryz.func421, tr421⟩ <|
  .cons ⟨_, Tryz.func425, tr425⟩ <|
  .cons ⟨_, Tryz.func430, tr430⟩ <|
  .cons ⟨_, Tryz.func432, tr432⟩ <|
  .cons ⟨_, Tryz.func433, tr433⟩ <|
  .cons ⟨_, Tryz.func438, tr438⟩ <|
  .cons ⟨_, Tryz.func439, tr439⟩ <|
  .cons ⟨_, Tryz.func440, tr440⟩ <|
  .cons ⟨_, Tryz.func441, tr441⟩ <|
  .cons ⟨_, Tryz.func442, tr442⟩ <|
  .cons ⟨_, Tryz.func450, tr450⟩ <|
  .cons ⟨_, Tryz.func451, tr451⟩ <|
  .cons ⟨_, Tryz.func452, tr452⟩ <|
  .cons ⟨_, Tryz.func453, tr453⟩ <|
  .cons ⟨_, Tryz.func467, tr467⟩ <|
  .cons ⟨_, Tryz.func468, tr468⟩ <|
  .cons ⟨_, Tryz.func470, tr470⟩ <|
  .cons ⟨_, Tryz.func471, tr471⟩ <|
  .cons ⟨_, Tryz.func475, tr475⟩ <|
  .cons ⟨_, Tryz.func476, tr476⟩ <|
  .cons ⟨_, Tryz.func477, tr477⟩ <|
  .cons ⟨_, Tryz.func478, tr478⟩ <|
  .cons ⟨_, Tryz.func483, tr483⟩ <|
  .nil
theorem ft_def (f : FuncId) : ft f = look tab f := rfl
theorem ftS (E : Env) (h : E.ft = ft) : FtS Tryz.prog E := fun f fn e => by
  rw [h, ft_def] at e
  exact tabAll (f, fn) (look_mem tab e)
end Go.Abs.Sy
