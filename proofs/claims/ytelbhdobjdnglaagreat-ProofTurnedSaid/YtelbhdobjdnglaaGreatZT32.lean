/-
 Merged: lemmas of this claim.
 Conditions: none.
-/
import Derived.Test.YtelbhdobjdnglaaGreatZT31
import Derived.Test.YtelbhdobjdnglaaGreatZT22
import Derived.Test.YtelbhdobjdnglaaGreatZT2
import Derived.Test.YtelbhdobjdnglaaGreatZT18
import Derived.Test.YtelbhdobjdnglaaGreatZT29
import Derived.Test.YtelbhdobjdnglaaGreatZT28
import Derived.Lib.ConvBytes
import Derived.Test.YtelbhdobjdnglaaGreatZT11
import Derived.Test.YtelbhdobjdnglaaGreatZT14
import Derived.Test.YtelbhdobjdnglaaGreatZT0
namespace Go.Proofs.YtelbhdobjdnglaaGreat.Kec
def eaS : List Nat := [0x80000000000000000000000000000000000000000000000000000000000000000000000000000000000000000000000000000000000000000000000000000000000000000000000000000000000000000000000000000000000000000000000000000000000000000000000000000000000000000000000000000000000000000000000000000180, 0x60020000200000000000001800000000600000002000000000020018000000000000000000000000000000000180000400000000000000600000000001000004000000000180006000000000000000400200000000000030300000000000004000000000000000300200000000000000300100000003000000000301000000000001000000000000008003010003000000000000000000000080018000000c0000000000000000001810000040000c0000000180000000000000000040000000180, 0x240238220608be65191cc4a8987931a905a1e0f01f8d1e40ac1400ca8070c5a491b1d4b815bc61484438350704e3480e1b165239699130f54a304180045aaa0a1d287e80e603422142167a3a8b39f8d18289c30619f183a2332e30300d438d708043d11880e0230e2115a00c0e76daf400f70a2293043c38e88a36846e14bb554fc78038c0820030824917c680149344eb1100f428960301065481be15033040e62b8000f9655814934c0969498481d04aab1200d1d1598ca1eda94a21c785281e48322010f207e2, 0xa0e393a41f9ba355a5b9dc355dbe9f895e97167cfd60654af7e8a9816c13c9395add1afa8597e255acd60c514b4b56d0f4ed04a481c505d1e573b60fc3c5e790ac9d46b5cae16ed82581f3c4fde6750c3fb0387983d78125cf360963d7419d7da337a963db5e5569fc8ff582a2b56176cab2a22a21ef4c6f5085f9943b9848d3645d5d005419ef7acafcebb3ec90f08a5583a58939a534a303c6553212d548d06e6a9a51a422cfcdda8753ae5708a0487376f45f672b17d2aaa0a063d7d9fb5892eef97b5e30a756, 0x2239e41387a6616243aec45ed243ea46810121ab4734dee82cc73cf10757b11e9ba79464a7d1ed645fd635487a6285682bd456e1bf710678f8f6bcaf7852c76be2eb9b3bf6c3c42cb023fbf1d82afe1ec43a65318fd5ba17fa9d27e5a677e3ad1a70b485dc616d3c341f96adbd4cf0f593e8b59c7ce459758dc776f108a2bc834577f851c792003fbbd2c077e944d7cbc304ad5e8ac19b2e3ad175fc9734dc9d6098cf6594883b705769df500abaa8333ef15dd558442b4da712c135767b0b37b6571f4bcafff638, 0x9097b287f0b3a60b8250d2a9cf9474cd5ded6e10bb6808084f15f20a8334d5b82823c50ff17456692f8c9a6ba14c33c072f882f192c4b3b2703d49145e18b3779e304e84a1d9213170737bf7824d33e48e00e4fc1afcc59dcba47cc2a6e391f672588f88c976171889a8131459e2ea2fcb323f3b9948e6cc36f9fd42bb73f831de9aa35448f4668bf8005bdda7dcc9375bf5965daca66e38684ca8bf71d4860f65e55c1af2b011c5bdf48083b7ac88b581b7e335762b894688ff73a8f6de63989f9724a944211ce6, 0xdf492c5e5d1450c5e7ec97aaf7a6698e97a4555f80301d21acc6d7b4a55c80f8ad9c05fb1f82f7cb82c163189d67f47b6efa279d6a0fafbb2df861f6019eeec51da10009bc5413a94212bd27170d064362e587697d11e7689c9eb51a2fda27af0edd667c48527b6c40c143217882d3626c4c9975a5226c3586d5cf5dba7b2754ac3eb6fca9f74014f11f746ed93bc65596408b97192a6e3c1563f516b7edd5a6f9f950d420cb18e502abdbae98169a215abb8218ddb2ef4e1aff93b62bb408ad4b9edd775044644a, 0x1e5394a5df5aae3d2e4ae2e2e1c7f6ad55422e3cd5764b250eb50d1e89142704952405b7e00aef9df33c0b9cf56e5b929658aa94551c9324952efba9b691329e6bae480cb817bdc24dba397e49249355209670e31be17fb37119719a1981f787e7dc1e9ce6267b458f0aea215b74eebc9347b2af52b4def4d9926323be883bf06fb7c3cee940099321f69d683442e8be05239c86cd987e6aa1785d7eeb924d9095fc76f380f3ff1eee5d9ad68dd22bc400f4c80ef1f1a4e9de1da48340bf879870ac9b87e0fea58b, 0x60c4f53f7e88e4cfdf8f6ddce49e2120c2dd528d36c154df7ab538041bc1146d680ea51e454c9264c9bad6acb1be68a7d2ff497829920ef9ab79162d08cbc565fd53e6244c188b12c76ebe51d7af18580350c846e97c9b935751765d4a7da4c7c28dde4b376953074380ec4468d7e5a812e6b38df772a9cddc35cf5d0474a452ac5cff184d01b208d6da3640adea1c70078da359bc6bf7995d5ddb8c8f28072831ca0ddb3c86d33a9fc504680c6358f93ca943ae28ca9c95abd1fd64bb9c1bf007464df921b37467, 0xe47622e379cd088cc923f3b9909f13008bf98090c82e50d0fb333c004b6f383965741feb870532395a01d3b0d4550db4b5d7d60748a8ca50ea33c33d5b93bd3812b4b07eaf82a6df4b674a1c04fe5ec933fce819737dbeafb400594139a8343fbe0a3c513534991764420026c5da60730446a7f9e2008c79ef128fbef847e0569b26930f65c3087a4e0a5fd451cfe1113a54c73d6c17b993bbdf1df8f4dbdb98ea6e0981d91137e78bf2a029b60b88f6b037704c7e1c7d1c7979721bd4ddd61c10e1b5dc6df83103, 0xe6db11d04403bd307d05509ca19f6951cfe9bff681094cf442d59a76c04fde9d7e85d12025d3cdb03ed17917d0eda320f2fe510072f28edd42ea3423daea37b939299bface9fcf472e15b67519e4d708c1a36b3ef2a32147c1782cd7bf346810941a29294181a5204b9e523d955ea18ce3d039f07d601fb6bd8aa4c286aef144afa46100b043a4179b00574274ea10102786920d1012f6eae40b3a04f9fa0dfa947be902ce1f0fc71083c2cb7c50c8a718c67a0594d6e943a727df161afdf8d31d5e5855a5b07998, 0xf5d60644c338d430b4d51ed487ca126628bab8d236ffaf24d6eee394e58be20b7bc30629830cad69cbdf6d4915562ec10be415bfad4e088215c593b3ae7a449d565b0b175cd11eafd32788913da5c8a38bb4a5f1c3eebd5c6f852740b9b3d6dabc01a7284e3a075a611b622bd61ad9b3ad3bfcbbeedda9c9418cfea7ab1ea6ddf239c89063af6de791f663e802ed97f574a945ff7e0fa047aded66c39e5ed8b849b1a31ead210bdd5d3aa28449efd62a8e6ca324274434566d8dbd038339edb3cee0290529cb549a, 0x2bd8f57b9f1031852dc5913f0719f645bfb57adc43cc2270be496f726be93b7ee3c607cf61f32c54fd532878cb53a182b440a0f245401d654e0a875bc60fee60201a1d0e365113ea51dd25b22fd158f54797911ec008c55ce478dfe2e639525b9dddb4859b104d9ec4a7399afd8d0c447776b79a07f8a6bc25ce52eb3e8ee4700011c5a834fa332b289652e9c670511ba13c7bb52744135cb59864c9d3bd788b6b760d7168e341fd760f767a4525ee2f1cf2f4de22080ca5c5e372db6f26d7f69274d3ed9e5067fb, 0xa12663eeeb003fc8fc902fe54f2e087aef1bbc4e9b45830b4bb3ac268d074677e94b932b6a08f980da8e895827fafa9fba355631ab7633d3efde417bb1ecea500344881124bd345ff9b9ddd85c6cbaa815452fe8338b22d298aa13118f5b6316f4747237fc866cef5ceae7a1550765d08fce04b9b48d4dd83ac910b56456014e2de8c358d534c246362218458b8495eea1d2d3f3f97efaf4079d353b2b941fe63d210ab033e8f16c1981318f931b675ca968d591a2afaec356623f7f15719c6eb88e85fb8ed7f5d3, 0xb9e34011563ba843889fa60564b96e93882b36dfac276728ce5e8c3fdc25dfea9683406bd811293aac37409304e2b05b3daa73aba824af7b4e271a6293318eac02fe4dcbbc2725197e8c9c1a1f6859995992d0cc71c8ec90b5805e740be8b353a850026db243b9de472582f05a4bf1e0e33480b419a60f2d432f14fd5e2dc22555651d931ee4c37906864edde924c5d52a0172f140db1525e7541b681323dc0e039a133efa7880cb5e41b90445847885ee8c3442a111cff1c630bce4fa4d7209bfd7068c065c0d88, 0x8548d407149596d406e92a8a2ecb21330f3c77fee8aaf571c5a66a7367eb8ef82d9e387a9e6d2d5579052f1f592b7050627c55421c5e12f9c4ae1271ee0d14607dcb24e05cefe77107ad78a0467bcdf1b3322eed1c8d5c62d6a51d1fd4778d99609061abcadc332c124ac9d0402fd51d73c8a8bef40af3bba806bfbea1ba8bf9e71dcbfc088bbbac1d705cd658f349ba7db8d4bc73224aeb08a4fca3f4de05253bf7d30a9655954b5be47193399621e11a38f88ef0ce3c55b53906605084b33bf64fb3a4a6adeb5d, 0xca3617a7c43442c86a871a24df1eb32056c97c7aed7c095342ff270893d10c0acd431fe96de30dda5813ab7970a1310e5ea78cbb8fd497ec3ca91d9b459c5fb5f2c43fb51e6eed8aa9d2aa16f249e81ea8132aa42e35e178f8d1a021cb6683bbc2ff1649c187b5dfbc6e6f19ea3930b8d7e8d333c94ac6f52a09136651ffbbc17bb0fcc07c6f7d775454d42b1df6e93b36aa89e592879aa29953cae1a88b5b2f109c57cdd01149341897142d912461f179faeb3d6e2b39e589868c214376b84c1ffd81075d634423, 0xf71e0f7834bd5f62d09e7199ce78ad1f443175d6255203ef93b16301ec0028c7454b91c8dcb3be7cf146397d38fbf141e7af8b12abc46ea07f0d4d14059e3a4f720f4e9d986f8f2d52470535fb27069ca7e4f21a3978acca232d7fa5d4f7c6a9ff0e80ebbcf966da2027c451d199c2aa37ae604fae75cb6db345a6d012f871a45e5f1086397a7f110ccf8f4c71da883124060025848a961b921900307a9e171720f97db03149f3996df0fc4b99395a68798750413e84fd42b8652e9d72603263b826e67726460f57, 0xaf63fc7653bddc65328c70bfe56b439fcc4f118aac4b15217a45f291ef43c7bc1beedc76837e17689c85a738dd7816d6ec83a24a7d5737c12a67f2a9d9d5d92726115371bac93c94dc333cab21a740ac1593ab96c7e3567c6f7d31c3811abdc0fe5587ce638dac7495c68fc1b5806544ca08e45803729173835fa40cce9bc4c7023e305cc3441768da1e02f0de958e4ca98af92465582dfe4421d1cc098ee8589ad023f5832c63617809e20ab4f656282fede69ddea3672a0a9e44c6ddcd87e614f2d4ca96d24d7a, 0xf27bea43bed4f94714a65fc988d91990add544301a6a3869476a3862cffe20f4fc7c81f7b6c588b21bb9fa843dda7a8f05d72f517c73eb352e1dda92f1dbe4c743db99bbe34c1d8ba8a6b360bf4f28c8b7f0af1153afc52ec49f5e448e190a7c307cbb851c5ccabc483db89ccaebc1081a0a8a8b9bf3e2036208b8113427a73c2112168f80fe4dce01f5cfed93efb580ceadce18fb2f61678bef3b7bea672e5cb24432a1f866168edd0dce5503f6d748fecdf8322fb64fb344c420f01fd3e776660c4c6fe35996f0, 0xd40f4b7847200828c0a613d2964bcd1f78a825453a6383ce216e332559697da69673b4ac959bfe1214049e77fcfaa8314123000c2f0bcf49410d4538c77e5dda9c42dc5cadaf947af0b39708c4eefb556f0ebef6a4afab00bf4393f2edbd7bb6a1d4f41de92b5a4d32f710ba89c6f7153cd75c1147d2838a277debd11977305f57e39b320ee8b6ccede2e57c03d80cc2026ebb3100a0a8c1da8839d01a98df76709315701ba0ed6be98942ded7f9a4ea7bb7390bdd056c7d903fcf9c40e49ff28e39b670eff2b56f, 0xee0544787dd4e18599251867980b1d452a0cf3615247ec4fb825007a42d7b27fddd1f7780be66802a31e5570e567c586e66b5a795bdebe8f65d606ff57697580410c5af197fd2f28fe4cbbf64f6b85e494b7ea44ff2dde1ce42789be8dca7e48b2b8642774a461d60930fc59d826b375a7ab5d6a6b7c35570d0f43bd4187e677244c6d95a7ecdb76f1cdfe8947d3161e2585315cb31760a54a2fb26475a7b01d1cbc435debb115321438e010fedffa8815a5d6ad3667960ee8879118c520ff6bd8e771143a9fb023, 0x536c2fd129946b92e55fdc949adbf8addb69bc492a84a796c5c0fc0168840931d7a814145bc1d3429f15996ba3276f33c6f9e3859a9a077b5477ceb06f6ec0b3658da8fa1064490c899a24c2cad945b124e5d4e4ae55ffe266ae5c3a99a2e428f56dc8edeadb3e4eb18f2056bc5702c7dcf829440ba38ae54125cdbf10ec90b906acbcbcb67bb4ade4145c51859efeaa0bebd326cb39bebbe24f15534dd29aed6ddc6ad80336ff2395ba931e862deb425903760ca667c937a23b8004e9070ffafb8a995c07308a25, 0x643da5edc63d215b7f2e6c7bb79dc4c1a9402766727b8b59b00899cac6ae2559da1a540434b0a6a9c724e0e7aff97dafa84760568d93206c66fdf15659279802e7dc9835e479d7775050ecd66768e8eb78ca16f29dd1cf8a13ceb1ae603eaf6e6af6215659d3020c1ab06be43f41d1cf6fbc6e16818fbf937978f46633b6f9c9b506e4892fbf9b270d251b451c27aadb12d37ab4b2c2036e1345cbc371849083522848a4cfefacff3a0c163237c17bdf823e7f0ed3bd0ef933398182d222a0298fcd2572748ef35a, 0x56db3f518f237f3f9a7f5ef7dcd7ed2bf72051e0eeb4827c61e0a6c7f80274d2cc7acc34cf01362227f151402aba31fd670d5078a2288496bd670349dcb6a5b47055a8558ef92038349ad316f75f5f7ee593186487a0cc7b6d93135b74fab5faef9b6d2997b479f9ac01167b7b5d86fb7e575e5cfa088096280ba513315a09b97456e960fec6dd273b151fb49843c62a7fbf54770eac2b9db9a4dfa32e4671946f2789526bdcb6fa21b463e3b52f6201c0ad6c991be0485b6ef8c092e64583ffa655cc1b171fe856]
theorem Vh : ∀ i, i < 24 → ∀ k, k < 25 → round (ofN (eaS.getD i 0)) (rc i) k = ofN (eaS.getD (i + 1) 0) k := by decide +kernel
def Qh : List UInt8 := [128]
def Qi : List UInt8 := [86, 232, 31, 23, 27, 204, 85, 166, 255, 131, 69, 230, 146, 192, 248, 110, 91, 72, 224, 27, 153, 108, 173, 192, 1, 98, 47, 181, 227, 99, 180, 33]
theorem Qg : ∀ k, k < 25 → takeB (takeB (eG Qh).1 (eG Qh).2 1) 135 128 k = ofN (eaS.getD 0 0) k := by decide +kernel
theorem SY : hash Qh = Qi := by
 unfold hash jS
 rw [Bj ((tK Qg 24).trans (chain eaS Vh))]
 decide +kernel
def aaS : List Nat := [0x800000000000000000000000000000000000000000000000000000000000000000000000000000000000000000000000000000000000000000000000000000000000000000000000000000000000000000000000000000000000000000000000000000000000000000000000000000000000000000000000000000000000000000000131612082c4, 0x4c584820b1020000200000000002082c0c584833a7100000200000000000082c4000001316100000010000000001612082c400040130004c584820b100000000010000040001616cda8c20b10130000000000040020000260a083448d880000000000000000000262c24105882000000262c2410588362c2410588000001058900000262c2400000000000000083674b41058a62c24000000000000000808b4f0904171141200000121200082c50098b49041620000082c40000013161200000531612082c4, 0x5a87b76722c5db15bfc67a283368f6f098b61e4238e424912fe69b68fb3643544c85f5c767c4a1b89d14bf3778bc191c910cae77927399c5804f6fbe81e7954ab26f306530cfb53f57166f42e93ea0f6f5961c1b29b938ac68ee0981616fd70b22fc316d622a5257f2daac7748083e94b82e5bb3ffeb89cf6a6ea67bfb5fe51a63c8c3d129292dd2196ee9b1e0e93432c2a79116fc63dd09a49805e6874ed137a565ab40d98100f968cff42a83ff1ea1b1871ad3131c4ea397aea6055955ba61622ced72cd3ebdd2, 0x9dda54b306ea14295fe596b1602868294c27d4bb5440a91e32c5b525697ca424485ebf242aa5a4f1d107231b299ccc194be6b9325621b0a90b99ca426a3b2698f9bf24c2462754680c2fca12e0928a116197c9531fa2137cab6e46e4bd42511b3546b7f2340139f55cc3248013b9cfe48fe9cae3431ae86ce63b7f245090d313fcec9ec4efc70f028fb071870bfe9d8891e27dba8dfef7b39c90fb960203ff5b93a0e78e0a74372c849502371b34f717445a599f2aaa74e518346a47bde0226b2cdc00c0d3a529b4, 0xa4abe421162c696da7e704da23137924ce31d0290976e0204db82af9f8884b81b706140b731b3f0ac9d759d7887e6d4ee7d8cefbb2fa4d7fd98f8575b983cb541cd004058f918b9c272e4343151e8498ad01618b65089046b9d591a330fa59c9ea847cb18a471d14ecd58c382c3d79a6218a4944a52d9c7a6aa4732131c4b40e1b055247044ea1ee3fb56d91b6298bff3b2b71e06df908702a53a37f7ac2cb771f04ea1102c94349d0a72c528a0cfae8638c972916a2072d05eff1571bb990f0a0d2678d242e542b, 0xde91dab1807875602243be241b84d380385b9de5c302f8f88fe8dc0dc4026de9c11a7eed1a2182dfd6237c55012ba0097e84e5026973c4e146a8ac4b3ed9de53b5cae30956e82c6e9ab19c3382c989c25083a720629d519071dda599a22a18cfdc76d84a25b2d9b0178816a5f9f9d93b31e3d24f601abac2518956a081541d2040c904ffffabe69db0185479bdc1f87e7c73f9493d28ee3e4901be517134e619f110d0bd4bee7029e45a2ba48514a9641388f872620f37c5086d11a4e1dbd476117d4e6dbe95d67d, 0x97ca5df9e16b06caf84a17a6e13226ad2b991087a1b7df113e1ae3871155520a964afee540e04836a1d6a7f45546fb23fb4e36f6fea5020759e75a0791adc8aede1484e8420bb7121d1a029fd003848c61bc7840b36cab09d36e6e6aee636829a57fd9e70c1f309bedcd9d175b96815e70c4f54fb78d5b9b0ebfc6f9a41edbd4289290b8c44e69d5975bb73d357824d349645997601c8f9c0d1704ca4421d65c62c3c5ed4e93cccef3db8da44431ea34b7df0cbd84567afc18ccd7c6ab222052fdaf431d7cf42440, 0xe8f3b2e104a3208253a8c82a09dbe018e0843a3e31fbc5fd9174925d764d54c977ffbf9428bf4adad2787f1db2b59dde6d3258e44fb949e5bc40cf605c5f503fa1311beee376d5c2760b965fbff4c0755bb4ed06593054040d2906cabf71114d2fe50821eca6e08add91c01f75047cc3d9b5b0f7d53deef93ca0162d18ebd54bc50f2646f46c82c8b6447a36ed663a8cd1bdab7dfed9bc300f68610eb61a39f0658cab25a0dea6f98e7402cd090e3e4193ac565a10bc91cb15da6a512b68c85f1c81bf3d06d1630b, 0xd42d8dd7a584105bf651801af4455f0314baee9b176acbb469f0f0c6b08659b786e5ade90d1c864fc2344720dc557f4b39759845e8f5b2856a949fda36f3c6e4b020254789caefd9a29a7644fe61a49bd5bcb2c30fde302fc2008163fee439ed77434f712d4fcdd819a56a36900ee67e85990b316c999c58055458f64186f985e2453de8f5d1fb0d9319223b49993a6de33986cad4ddf680b9bf7d7ca38ba6eee394715a5258048a5612aa516f4e91b3f286ae942f1dfec653993b3824254e4df7f7f74921d7da24, 0xddaf2fc5e4484eccabae62feabc2bc71664426d88dacc8aa2eca3e9201e8340c2c286d3f29c890ce52a42f90f657b4bce841df0929e17e13b9c2a5f4dca5789312f51c4cf64a82a7c18d90d69c9ca64ce3e43ac3f21dcecf03fcf683e72713b478bd22934dd0792a49cf8834cf2ec4604b942b9ccab3399b50c13cfaaf7cffd86891f0c86358083d08f2ff2f454f9d52f619230c1fc637b6e4492d0ec76be3bf8d40340b8204bcd00f71a2ce2db0689f92456aaa0081702b3ec00dc373d7d84c333dd07377738d07, 0x9644b779eee469e5b3f530176144f5e907d6bb3bde1ad027241ae0d43f957a319be6ab1980dbe3fe46febeb2ce681157889aefb5f3a4ef0e3f4932c9f7fc557fb2382b82f74052ba08b5b63e3af5cedfda0954a6f6bb9cd9fc527a1a4dc2e8b5ec408d9452904d0c9e7209d3879e206d09331d5e7c2cbb727381f6c36b34466af91e4b2d8fe4087207c9bd8f478aa4f049a3f4f8d68d4a84baad333c8410bf5b99c58196cb3b80159f9d2a1eb2d6a2f3a4170853998a96702a647fc0645366207c136a4d8392500f, 0x5f9fe267c003eb60ef688e66f012fbeac58c62e106701e5b4de764c9abed907ff327701e6c1fcee584291e7d4e68c20b9861a626e04b3661b8caa0e2d39348b8d11c1bbcf704a4b14993f9554cbd37ba81e57722243ab0bcccdaa0f6a2fecf5da1299fac95954b9f941f695ce7e6c50b11720bdbce6cef2b45e72d7c359578b8b1daa09c603debc0b3702f8d95368f290d12225ee97fd8bcbdf80161e2172bfcb458cf4cd0a666d1047544483067d6af9ecfed9052e1d2494d52affdc0ee597e694f930e9c811897, 0x4d62d0ccdc05df7f480d6556d6fb2453bbfb4b02f0d1ad1948be930df7e2cde19c4ff3fe1e0246e8f49e4838138b57c7140da6391e0f649b7123963b589b497c45006d077b3b580b19c41b932263435f0162936a5572100b452e0443f1f54c5a17b2c02f89587d2dd1bf03c91821f1d836105ced7bc5873de354035dbfa8525e0b2d031a6819d994cb2aa3169b646fd8e1f3c0855fbde94f230bba9ca23d0d76fefa09fa7b9eb80609f68ef7041d91a8147d7bb295f3cd72741895820dc864edbcc9bb0f8fc673c, 0x546521da94bfd1c197d48664a7696648ee664f3801a10def2d520bc3c2dfb05073ac913bc2c5de98d780a9bf38446e871526fba0a7d76869c5cf6b81553e8af869fc2c97b5af9a2d88fe510a2eceda46bcfb9b75a1466aa83e82c9f3250f257af03d4e969541e4f8d928f82afd922c41ebc351eea7123fd9afa3c4fce7aead89cdb3c8d954e7e2dc2272b00a5d121e7bfe3f7ec2ee32409637d68c638149b82133808d36fdb06e728bd15ab47501a9a0ff8e527651f0f0eae813acc0f5fefa6a5f2e9d8f7dc1f93b, 0xe36cbd4fb19c0e65616ba4d92c22732e1f7f13dd8d83a4a4a4c674dabd7b1cb379390eeeb218835d1e9e96b38171d3c4d504cf1f03b1d1384971fbe169768071df797f4629f5990b5c34afd2b9c80fec024bdcfec0a39717789ba25201f6badd2deeb7a49afc24ea3f3d70e2059a270239d4f3a1ea4835ff16354cee92466e26d61b33a9db386359fd748e3a97668e4e2e11cc3399ca272ee837b2c35a9cb63501f9dff2a7b77fb922eeb5b56f82269e0dd2f63f080fe147622f792859656aa5678759f9c8250666, 0x868adb3436b33d4818446f88b9ae8dad9be6101e4eb13e5e1e5794ae34d692fd9c7329d29322a1190a38e12a7a429cc8718b963dea155bf66829bb93fe83eee3500133c91398b17784c199949cb81591e8c993d410ac80974bbe79d42d9d88287496d2c760046e4c7a9ff684546e48e14bd51f2af1095db1ae7e08553d305467d9ceacf913bf728222f05ba8480509978b81cde1802adc775419ddf3d3912421816639d21156cfed0964b5cca518d5046b8c58aad772ad9cab64cffe4b2ba2825e01b12d2af906d1, 0xecca9e32b6f7f703810d2182bc4c41c181f5f6647477406da34897f894d6459e2ab2a67b9d94a09b454afe267a32bca27fd26ad880434dc4ab061f1104cfe6dc7aea38c3f22e2c7c97b586385adb43bd5bd6432c8bb8bda098deaa2c10f6af164c05128f1227e846ca34b7686d2bffbcd9a2b13e34a0b93e6b12aa6accf4fb05a9493322819575ac037788fee7e46a804ed7d663a017f4fde182eb384e986ff1b3450c1311e7d12e91d226eeacc52b6b1440d4393d9642c9bb8c94adcded1ca7b97bc6990a90953b, 0x525dd17603a862c5cf653460497f9701df186923f8673732a381510f4b0e52dc1feeb1c4a6da34fb23a43b8c3d24fcaed62430b87133787f8497f1a856484cd7d82cfd72c02d8419a6ef09e6eeeb7c4e7b4b2f42a2f83da2e9d7e5004100107335398641fb991c8b6b8ce4f4a3bb0976cc97c4174fe0d21b4fd18895c6356bba683403eea00c8687e28da23a16c5f0d17ea87da0de5cd510834b5d531be1005ce5d97f34d09cb0d8f6e10eb069eb4718eb6320bbff1f8318ad15b750828c06629c8ab64d31af0482, 0x9f3efac0782316882c3ac9315afe732ea79adaacf2f74da4f387097fc30cff287906fef3ea727cbb6bef5b8614e6bb72557e25ba5c80494b09ac6b9ff299830dce84176a4086f74500f16504e080add778a7505d072cecb14bb97d56186dde91e5d7afe2409fd71c6d960394468045be83a79db2ae88d0b8d850665aed2c284a426777bd4a590589e0a797a3d8cbb1cda212b20e9e9f11f4d4a6dfcfec6c576740cbd70fb42c723da31b1c13f23c049b7f8bd35d1ee85550b632e1064c37c8b8324090f7412a426e, 0x527f716518406af6fc3fa1322c5931fa9390268c37182c5824f031644f343d45360f1cc5f161809872d76f1710b9f6bb68f8c40b636ff449fdfbf018e63cc1d21c0652b79a131d32d3f99cfb69fdf7bc4efc9c595ac4318402332fa0696f62e9477a0a7291edcd4bc44a76e0892985400d88b0439318146724a19e1a153421cee22b6f91bd89c4a3f986877dd911178cef0cba2e452b23d31111c9ad2de4d86aa4a2f35bd6c594f4ea72fcb04b776d3780c273383c2c709e0ec20173a7a3c4812fc73dab548ad038, 0x84fb125ebdf97c9dae74086967e911adafc25dfc8e7ed766bb462cce585e2d1387a4fbbc89b02ffde30804b56af35eb578ecedac705aef9abff73c5ad2dcfcf4644c9061827818c8e9680a0693aab51b7aee6a4f09797e46b3f513ec76e1649391e20a98b9c1b0569c6c1b5f670597675992e97344fc2ed8775233de50b7b2457b03dc08a91f4eac9971d919bce48e2c362a43f920041dc6441aa305aac828ecc088accae37fba27cc9a4605ff48447ac97d03638b93451df5e69d0a5f5a7c45bf41c362040043a, 0x953a0d8f1276158717cc1c28ffeaf437d13b87d38093b976bed392950e0545e41ab8fac8201d2e8997a24a024cde681ce4f09a3d43f8a7d5e6827e0e64fc37164be07b7eff8832736d9a17ca57b77614fa07b9347d66bc8d9e219c0a5abe03b8d98db047a9667c29f6adedc010d8b440fa4880d62d4dc076cd1484ba72c721e5dc2e96137d1c43bc7a11fd8a549e6e1e2a6b87fa35cbbc0c70f652bcc25c8c63141ecffa05419958f651d2757451f975db85c250d15def8226736679b6d9ce0598c5a4af9ed0a817, 0x1a63874b6760fa64644866269cc4c7143b3401738840598e5f205441d41c2561b6a666f8f0562250b4930001d8bf3031588a54ea0db77ee0767b191d0db55426283983e4c6a0e295bd71a04fb5d3691255afd768d6fa011cdb73d5b9e8fe9b7b70f1cb4665255583d7eb00d3ce5819a698c0eb7a73686e604e9633d107a2fbb3dc685231498a09422480da3dea7621bf1df11b192505005e5346577ba7ff7ffc913c39510082ce19d7a5b642e4c83f7018dc82d67e4a60adaf53e907af9ec57336d9d8c65e571204, 0x23f596cdd1155d72054a375a690afa66f7778aafe34d42cedeca256653508ed6759d2264c06295a2ab25045d900053218d6e432a3f93d6bdf8d497f395a819885563161d132536f738c2bbfa880a83fdd02a8cb3ccf65b84da53d7d2e8b41d877ca83ada0824359e087992059755e6dac0bc99191a256eb25d178605ccf00a42b3c7c216b7c88c8b889fdc05c4a9129c7064fddde9f6b3b4d049fdb8fdf3d8c431082d421d9926e34b306aa7c3c6c85593373c9ad3581a54cb2fec8aca4cf030169cd9e419add6de, 0x12be6f2e1f9e1401c481ea7b00bcb1716b8fe072bf674bb13bd95d3fe32b6646ff8b86e52ca532ba1a0532938a29a6eebd263fde07bf4bb622e3b3cc117012001cc5fcfb3f3bc05315fee6f0f82f15779c4fd55b59a9e90eebf6f1b2019d595712782753af96f6dc88185acd1d3030baa4ddadd5bef8d38a995d0f851230251eb1a639a8d31b068b292be5615cb959c09a92b7db21e09996405e65eec8bcec37758a6fe46027cf4edd39f6fbc42190cde61d298dada0a44549f6e8c11562484055470cdba497b659]
theorem VB : ∀ i, i < 24 → ∀ k, k < 25 → round (ofN (aaS.getD i 0)) (rc i) k = ofN (aaS.getD (i + 1) 0) k := by decide +kernel
def QG : List UInt8 := [196, 130, 32, 97, 49]
def QH : List UInt8 := [89, 182, 151, 164, 219, 12, 71, 85, 64, 72, 98, 21, 193, 232, 246, 73, 69, 164, 160, 173, 141, 41, 29, 230, 205, 144, 33, 196, 251, 246, 57, 221]
theorem QF : ∀ k, k < 25 → takeB (takeB (eG QG).1 (eG QG).2 1) 135 128 k = ofN (aaS.getD 0 0) k := by decide +kernel
theorem TF : hash QG = QH := by
 unfold hash jS
 rw [Bj ((tK QF 24).trans (chain aaS VB))]
 decide +kernel
end Go.Proofs.YtelbhdobjdnglaaGreat.Kec
namespace Go.Proofs.YtelbhdobjdnglaaGreat
set_option linter.unusedVariables false
set_option maxRecDepth 20000
set_option maxHeartbeats 8000000
open Go.RowKit Mono Rlp
namespace E
section
variable {N : Nat} {X : Cx N} {ops : Array Oper} {Q : Exit → Act → World → Prop} {l : List Oper} {rs : List (Tmp × R)} {os : List Obj} {fs : List (Value × D)}
theorem G5 {t u ty ty' n : Nat} {pos pos' : String} {af af' : Array Edge} {parts : Array (Nat × Operand)} (bl : List UInt8) (hp : (parts.toList.map fun x => x.2) = bl.map fun b => Operand.const (bv b)) (hb : ∀ (a : Act) (w : World), (execOp a.eval ⟨some t, .buildSlice 38 n parts, ty, pos, af, none⟩).run Tryz.prog w = .ok (.value (.slice (some ⟨w.heap.size, 0, none⟩) n n)) (w.alloc (.cells (bvs bl).toArray 5))) (hn : n = bl.length) (hm : n ≤ 1000) (hN : Nat.blt t N = true) (hN2 : Nat.blt u N = true) (kk : EL X ops Q l ⟨(u, .val (.bs bl)) :: (t, .any) :: rs, os, fs⟩) : EL X ops Q (⟨some t, .buildSlice 38 n parts, ty, pos, af, none⟩ :: ⟨some u, .convert 38 38 (.tmp t), ty', pos', af', none⟩ :: l) ⟨rs, os, fs⟩ := by
 constructor
 intro a w ha
 have hg1 := ay w (.cells (bvs bl).toArray 5)
 have hg2 := ay w (.cells (bvs bl).toArray 5 ((bvs bl).toArray.size, (bvs bl).toArray.size + 1))
 have hd1 : ∀ x, some t = some x → x < N := fun x hx => by cases hx; simpa using hN
 have hd2 : ∀ x, some u = some x → x < N := fun x hx => by cases hx; simpa using hN2
 have a1 := (ha.gr hg1).put (d := some t) (r := .val (.v (.slice (some ⟨w.heap.size, 0, none⟩) n n))) hd1 (jK rfl)
 have e2 := iT (a1.kn fun _ => True) (x := .tmp t) (y := .slice (some ⟨w.heap.size, 0, none⟩) n n) (by simp [ev, St.put, look]) (fun _ _ => trivial)
 have hh : (w.alloc (.cells (bvs bl).toArray 5 ((bvs bl).toArray.size, (bvs bl).toArray.size + 1))).heap[w.heap.size]? = some (.cells (bvs bl).toArray 5 ((bvs bl).toArray.size, (bvs bl).toArray.size + 1)) := (MapKept.heap_alloc w _).1
 have hs : w.heap.size < (w.alloc (.cells (bvs bl).toArray 5 ((bvs bl).toArray.size, (bvs bl).toArray.size + 1))).heap.size := by simp
 have hrd : cO (more (X.ok os w) w (w.alloc (.cells (bvs bl).toArray 5 ((bvs bl).toArray.size, (bvs bl).toArray.size + 1)))) (w.alloc (.cells (bvs bl).toArray 5 ((bvs bl).toArray.size, (bvs bl).toArray.size + 1))) (.val (.bs bl)) (.slice (some ⟨w.heap.size, 0, none⟩) n n) := by
  subst hn
  refine KC ⟨_, _, rfl, Nat.le_refl _, by simp only [maxLen]; omega, fun _ => ⟨w.heap.size, 0, rfl, ⟨.inr (Nat.le_refl _), hs⟩, fun j x hx => ?_⟩⟩
  rw [XU, cell_of_row _ _ j _ _ _ hh]
  simpa using hx
 have hr2 : (execOp (a.put (some t) (.slice (some ⟨w.heap.size, 0, none⟩) n n)).eval ⟨some u, .convert 38 38 (.tmp t), ty', pos', af', none⟩).run Tryz.prog (w.alloc (.cells (bvs bl).toArray 5)) = .ok (.value (.slice (some ⟨w.heap.size, 0, none⟩) n n)) (w.alloc (.cells (bvs bl).toArray 5 ((bvs bl).toArray.size, (bvs bl).toArray.size + 1))) := by
  unfold execOp
  simp only [e2, XO, Ja, XF, XR]
 unfold wpList
 rw [if_pos (by rfl)]
 refine .inl ?_
 unfold Oper.wp
 rw [hb a w]
 show wpList Tryz.prog ops Q (_ :: l) (a.put (some t) (.slice (some ⟨w.heap.size, 0, none⟩) n n)) (w.alloc (.cells (bvs bl).toArray 5))
 unfold wpList
 rw [if_pos (by rfl)]
 refine .inl ?_
 unfold Oper.wp
 rw [hr2]
 exact kk.go _ _ (((ha.gr hg2).put (d := some t) (r := .any) hd1 trivial).put (d := some u) (r := .val (.bs bl)) hd2 (hrd.mono (fun b hb => rY ha.mem hg2 hb) fun _ _ => rfl))
end
def l8 : List Pr := [([97], [49])]
def b8 : List UInt8 := [196, 130, 32, 97, 49]
theorem Gs : ji l8 = 0 := by decide +kernel
theorem Jt : sJ l8 = .leaf (split [97]) [49] := by
 unfold sJ l8
 rw [show srt (([([97], [49])] : List Pr).map sp) = [sp ([97], [49])] from ZJ.1 (iF _), Jf]
 rfl
theorem pk8 : pkB (gK (.leaf (split [97]) [49])) = b8 := by decide +kernel
theorem Qa (x : Pr) : Fn 98 [.sl 2 ([x].map dPr), .v (.int .i64 ((0 : Nat) : Int))] (· = .val (dT (.leaf x.1 x.2))) := by
 rw [show dT (.leaf x.1 x.2) = dT (.leaf (x.1.drop 0) x.2) from rfl, dT]
 have hx := XQ x.1.length
 obtain ⟨at_, hat_⟩ : ∃ at_, at_ = 0 := ⟨_, rfl⟩
 rw [← hat_] at hx ⊢
 have hat : ([x].map dPr)[0]? = some (.tup [.bs x.1, .bs x.2]) := rfl
 refine Fn.walk 114 Tryz.func98 rfl Tryz.ntmps98 (by simp) fun X => ?_
 refine EC.lenOf (t := 0) rfl fun hmax => ?_
 unfold maxLen at hmax
 repeat
  (first
   | (apply ak; iterate 3 rfl) | (apply ah; iterate 3 rfl) | (apply aC (b := false); (iterate 2 rfl); exact aK; iterate 2 rfl)
   | (apply aJ; iterate 4 rfl) | apply EL.nil | (apply EC.f0; rfl)
   | (with_reducible first | apply EK.nc | apply EC.seq | apply EC.r0 | apply EC.k0))
 refine EC.draw 16 (by kernel_rfl) ?_
 simp only [Xp, Xu, mP, Xq]
 repeat
  (first
   | (apply jQ; (iterate 3 rfl); exact ⟨by omega, by rw [XL]; exact hx⟩; iterate 2 rfl)
   | (apply dJ; (iterate 4 rfl); exact ⟨by simp, hat⟩; iterate 2 rfl) | (apply aX; iterate 3 rfl) | (apply fA; iterate 3 rfl)
   | (apply dA; iterate 7 rfl) | (apply bD; iterate 5 rfl) | (apply NV; (iterate 3 rfl); (focus omega); (focus omega); iterate 2 rfl)
   | (apply iL; iterate 4 rfl) | ((with_reducible apply EH.nil); rfl))
 repeat
  (first
   | (apply fU; rfl; rfl; rfl; intro g; refine EL.le (Le.pin (p := 38) (pre := []) rfl rfl) ?_; simp only [List.nil_append]) | (apply ak; iterate 3 rfl)
   | (apply ah; iterate 3 rfl) | (apply bC; iterate 7 rfl) | (apply aH; iterate 5 rfl)
   | (apply aC (b := true); (iterate 2 rfl); exact aK; iterate 2 rfl) | (apply aJ; iterate 4 rfl)
   | (apply bT; (iterate 4 rfl); exact ixA; iterate 2 rfl)
   | (apply eH; iterate 7 rfl) | (apply iw; iterate 4 rfl) | apply EL.nil | (apply EC.t0; rfl)
   | (with_reducible first | apply EK.nc | apply EC.seq | apply EC.r0 | apply EC.ret | apply EK.aG))
 exact EK.lZ rfl rfl rfl
theorem Xb : srt (l8.map sp) = [sp ([97], [49])] := ZJ.1 (iF _)
theorem J9 : Fn 56 [.sl 2 (l8.map dPr)] (· = .tpl [dT (sJ l8), .v (.int .i64 ((0 : Nat) : Int))]) := by
 have h1 := SK l8
 obtain ⟨e1, e2, e3⟩ := lQ Gs
 have h2 := Qa (sp ([97], [49]))
 rw [e1, Xb] at h1
 rw [Jt]
 show Fn _ _ (· = .tpl [dT (.leaf (sp ([97], [49])).1 (sp ([97], [49])).2), _])
 generalize sp ([97], [49]) = x at *
 generalize l8.map dPr = L at *
 refine Fn.walk 16 Tryz.func56 rfl Tryz.ntmps56 (by simp) fun X => ?_
 repeat
  (first
   | (apply aA (h1); rfl; exact aj.refl _ _; exact enA; iterate 2 rfl) | (apply aA (h2); rfl; exact aj.refl _ _; exact enA; iterate 2 rfl)
   | (apply ak; iterate 3 rfl) | (apply ah; iterate 3 rfl) | (apply aF; iterate 4 rfl)
   | (apply aC (b := false); (iterate 2 rfl); exact aK; iterate 2 rfl) | apply EL.nil | (apply EC.f0; rfl)
   | (with_reducible first | apply EK.nc | apply EC.seq | apply EC.r0 | apply EC.k0 | apply EC.ret))
 exact EK.Hy rfl rfl rfl rfl
theorem SQ : Fn 15 [.sl 2 (l8.map dPr)] (· = .tpl [.arr 32 (jM l8), .v (.int .i64 ((0 : Nat) : Int))]) := by
 have h1 := J9
 have h2 := WO (sJ l8) (Js Gs)
 unfold jM
 rw [if_pos Gs]
 refine Fn.walk 17 Tryz.func15 rfl Tryz.ntmps15 (by simp) fun X => ?_
 repeat
  (first
   | (apply aA (h1); rfl; exact aj.refl _ _; exact enA; iterate 2 rfl) | (apply aA (h2); rfl; exact aj.refl _ _; exact enA; iterate 2 rfl)
   | (apply ak; iterate 3 rfl) | (apply ah; iterate 3 rfl) | (apply aF; iterate 4 rfl)
   | (apply aC (b := false); (iterate 2 rfl); exact aK; iterate 2 rfl) | (apply aT; rfl; rfl; rfl; intro _)
   | (apply aI; rfl; exact saA; iterate 4 rfl) | apply EL.nil
   | (apply EC.f0; rfl) | (with_reducible first | apply EK.nc | apply EC.seq | apply EC.r0 | apply EC.k0 | apply EC.ret))
 refine EK.UA 0 rfl rfl rfl rfl rfl ?_ rfl
 (exact RL.a)
theorem Qc : Fn 84 [.sl 2 (l8.map dPr), .bs [97]] (· = .tpl [.sl 1 ([b8].map D.bs), .v (.int .i64 0)]) := by
 have hT := J9
 have hS := uX [97] (by decide)
 have ht := Js Gs
 rw [Jt] at hT
 rw [Jt] at ht
 have hB := SV (.leaf (split [97]) [49]) ht rfl
 rw [pk8] at hB
 have hst := zJ (.leaf (split [97]) [49]) (split [97]) (by decide)
 rw [oQ, if_pos rfl] at hst
 unfold stepD at hst
 have b1 := mM (.leaf (split [97]) [49])
 have b2 := mM .nil
 simp only [dN] at hst b1 b2
 rw [dT] at hT hB
 refine FnM.toFn ?_
 refine FnM.walk 45 Tryz.func84 rfl Tryz.ntmps84 (by simp) fun X => ?_
 repeat
  (first
   | (apply aA (hT); rfl; exact aj.refl _ _; exact enA; iterate 2 rfl) | (apply aA (hS); rfl; exact aj.refl _ _; exact enA; iterate 2 rfl)
   | (apply ak; iterate 3 rfl) | (apply ah; iterate 3 rfl) | (apply aF; iterate 4 rfl)
   | (apply aC (b := false); (iterate 2 rfl); exact aK; iterate 2 rfl) | apply EL.nil | (apply EC.f0; rfl)
   | (with_reducible first | apply EK.nc | apply EC.seq | apply EC.r0 | apply EC.k0 | apply EC.b0))
 refine EC.le (Le.row 38 1) ?_
 refine EC.Ph 2 (EK.round ?_)
 repeat
  (first
   | (apply eX; iterate 2 rfl) | (apply dW; (iterate 2 rfl); exact b1; iterate 2 rfl) | (apply dW; (iterate 2 rfl); exact b2; iterate 2 rfl)
   | (apply aA (hB); rfl; exact aj.refl _ _; exact enA; iterate 2 rfl) | (apply aA (hst); rfl; exact aj.refl _ _; exact enA; iterate 2 rfl)
   | (apply ak; iterate 3 rfl) | (apply ah; iterate 3 rfl) | (apply aF; iterate 4 rfl) | (apply aS; iterate 4 rfl)
   | (apply aC (b := true); (iterate 2 rfl); exact aK; iterate 2 rfl) | (apply GY; rfl; exact I.a; iterate 3 rfl) | (apply jF; iterate 9 rfl)
   | ((apply ig; rfl; exact saA; (iterate 5 rfl); (focus (constructor <;> (first | (simp; done) | (simp; omega))))); intro _)
   | ((with_reducible apply EK.h0); apply EK.round) | apply EL.nil | (apply EC.t0; rfl) | (apply EC.f0; rfl)
   | (with_reducible first | apply EK.nc | apply EC.seq | apply EC.r0 | apply EC.k0 | apply EC.b0 | apply EC.x0 | apply EC.ret | apply EK.n0 | apply EK.s0 | apply EK.aY))
 refine EK.le (Le.freeze (pre := []) rfl) ?_
 exact EK.bV [] rfl rfl rfl (RL.cons (Rf.fact List.mem_cons_self rfl) (RL.cons Rf.same RL.nil)) (Xt _) ⟨rfl, rfl⟩
theorem OD : jM l8 = hash b8 := by
 unfold jM sumT
 rw [if_pos Gs, Jt, pk8]
 exact if_neg Xv
theorem Aq : (jM l8).length = 32 := by rw [OD, fJ]
theorem OC : jM l8 ≠ lY := by
 rw [OD, show hash b8 = Kec.QH from Kec.TF, show lY = Kec.Qi from Kec.SY]
 decide
theorem rd8 : rdE b8 = 0 ∧ isN 40 (rdX b8) = true := by decide +kernel
theorem ck8 : zV 399 (rdX b8) (split [97]) [] = ([49], 0) := by decide +kernel
theorem Xi : xQ (jM l8) [97] [b8] = ([49], 0) := by
 unfold xQ
 rw [if_neg OC, OD, wF 399 rfl, if_pos (show hash b8 = bts (.mk false (hash b8) []) from rfl), if_pos rd8, ck8]
theorem I7 (n : Int) : Fn 51 [.v (.int .i64 n)] (· = .val (.v (.int .i64 n))) := by
 refine Fn.walk 4 Tryz.func51 rfl Tryz.ntmps51 (by simp) fun X => ?_
 repeat
  (first
   | (apply ak; iterate 3 rfl) | (apply ah; iterate 3 rfl) | apply EL.nil
   | (with_reducible first | apply EK.nc | apply EC.seq | apply EC.r0 | apply EC.ret))
 exact EK.lZ rfl rfl rfl
theorem lu : Fn 46 [] (· = .val (.v (.bool true))) := by
 have h1 := Qc
 have h2 := SQ
 have h3 := uY (jM l8) [97] [b8] (Aq) (by decide)
 rw [Xi] at h3
 have n0 := I7 0
 have s2 := (jT [49] [49]).1
 rw [beq_self_eq_true] at s2
 unfold Rx at h3
 generalize jM l8 = r at *
 refine Fn.walk 55 Tryz.func46 rfl Tryz.ntmps46 (by simp) fun X => ?_
 repeat
  (first
   | (apply G5 [97]; rfl; (focus (intro a w; kernel_rfl)); rfl; decide; rfl; rfl)
   | (apply G5 [49]; rfl; (focus (intro a w; kernel_rfl)); rfl; decide; rfl; rfl) | (apply aA (h1); rfl; exact aj.refl _ _; exact enA; iterate 2 rfl)
   | (apply aA (h2); rfl; exact aj.refl _ _; exact enA; iterate 2 rfl) | (apply aA (h3); rfl; exact aj.refl _ _; exact enA; iterate 2 rfl)
   | (apply aA (n0); rfl; exact aj.refl _ _; exact enA; iterate 2 rfl) | (apply dW; (iterate 2 rfl); exact s2; iterate 2 rfl) | (apply ak; iterate 3 rfl)
   | (apply ah; iterate 3 rfl) | (apply aF; iterate 4 rfl) | (apply aS; iterate 4 rfl) | (apply bH; rfl; exact I.a; iterate 4 rfl)
   | (apply aC (b := true); (iterate 2 rfl); exact aK; iterate 2 rfl) | (apply jh; (iterate 3 rfl); (focus omega); (focus omega); iterate 2 rfl)
   | (apply aJ; iterate 4 rfl) | (apply KN; iterate 3 rfl) | (apply eH; iterate 7 rfl) | (apply jF; iterate 9 rfl)
   | (apply aT; rfl; rfl; rfl; intro _) | (apply aI; rfl; exact saA; iterate 4 rfl) | apply EL.nil
   | (with_reducible first | apply EK.nc | apply EC.seq | apply EC.r0 | apply EC.ret))
 exact EK.lZ rfl rfl rfl
end E
end Go.Proofs.YtelbhdobjdnglaaGreat
namespace Go.Proofs.YtelbhdobjdnglaaGreat.Kec
end Go.Proofs.YtelbhdobjdnglaaGreat.Kec
namespace Go.Proofs.YtelbhdobjdnglaaGreat
set_option linter.unusedVariables false
open Go.RowKit Mono Rlp
namespace E

end E
end Go.Proofs.YtelbhdobjdnglaaGreat
namespace Go.Proofs.YtelbhdobjdnglaaGreat
set_option linter.unusedVariables false
open Go.RowKit Mono
def digit (n : Nat) : UInt8 := [48, 49, 50, 51, 52, 53, 54, 55, 56, 57, 97, 98, 99, 100, 101, 102].getD n 0
def text (l : List UInt8) : List UInt8 := [48, 120] ++ l.flatMap fun b => [digit (b.toNat / 16), digit (b.toNat % 16)]
end Go.Proofs.YtelbhdobjdnglaaGreat
namespace Go.Proofs.YtelbhdobjdnglaaGreat
set_option linter.unusedVariables false
set_option maxRecDepth 20000
set_option maxHeartbeats 8000000
open Go.RowKit Mono Rlp
namespace E
theorem GL {n : Int} {m : Nat} (h0 : 0 ≤ n) (hm : 0 < m) : Bin .rem 3 (.v (.int .i64 n)) (.v (.int .i64 (m : Int))) (.int .i64 ((n.toNat % m : Nat) : Int)) := by
 refine ⟨rfl, fun ok w p q hp hq => ?_⟩
 obtain ⟨_, rfl⟩ := bg.1 hp
 obtain ⟨_, rfl⟩ := bg.1 hq
 refine ⟨fun x y => by simp [eqGuard, go_sem], ?_⟩
 have ht : n.tmod (m : Int) = ((n.toNat % m : Nat) : Int) := by
  obtain ⟨k, rfl⟩ := Int.eq_ofNat_of_zero_le h0
  rfl
 have hne : m ≠ 0 := by omega
 simp only [binOp, Op.intDiv, ht]
 simp [hne]
def Tz (l : List Pr) : Bool := decide (60 < l.length) || l.any fun x => decide (70 < x.1.length) || decide (300 < x.2.length)
theorem TD {α : Type} {p : α → Bool} {l : List α} {i : Nat} (h : i < l.length) (hp : p l[i] = true) : l.any p = true := Y5.2 ⟨l[i], XW h, hp⟩
theorem Vd (l : List Pr) : Fn 12 [.sl 2 (l.map dPr)] (· = .val (.v (.bool (Tz l)))) := by
 have hml : (l.map dPr).length = l.length := List.length_map _
 refine Fn.walk 29 Tryz.func12 rfl Tryz.ntmps12 (by simp) fun X => ?_
 unfold Tz
 by_cases h60 : 60 < l.length
 ·
  rw [show decide (60 < l.length) = true by simp [h60], Bool.true_or]
  repeat
   (first
    | (apply ak; iterate 3 rfl) | (apply ah; iterate 3 rfl) | (apply aC (b := true); (iterate 2 rfl); exact aK; iterate 2 rfl)
    | (apply aJ; iterate 4 rfl) | apply EL.nil | (apply EC.t0; rfl)
    | (with_reducible first | apply EK.nc | apply EC.seq | apply EC.r0 | apply EC.ret | apply EK.aG))
  exact EK.lZ rfl rfl rfl
 ·
  rw [show decide (60 < l.length) = false by simp [h60], Bool.false_or]
  repeat
   (first
    | (apply ak; iterate 3 rfl) | (apply ah; iterate 3 rfl) | (apply aC (b := false); (iterate 2 rfl); exact aK; iterate 2 rfl)
    | (apply aJ; iterate 4 rfl) | apply EL.nil | (apply EC.f0; rfl)
    | (with_reducible first | apply EK.nc | apply EC.seq | apply EC.r0 | apply EC.k0 | apply EC.b0))
  refine EC.loop (ι := {i : Nat // i ≤ l.length ∧ (l.take i).any (fun x => decide (70 < x.1.length) || decide (300 < x.2.length)) = false})
   (fun i => ⟨[(3, .val (.v (.int .i64 (i.1 : Int)))), (0, .val (.sl 2 (l.map dPr)))], [], []⟩)
   (fun i => l.length - i.1) ⟨0, XQ _, rfl⟩ ?_ ?_
  · exact Le.kp
  rintro ⟨i, hi, hno⟩
  dsimp only at hi ⊢
  by_cases hlt : i < l.length
  ·
   have hd : (l.map dPr)[i]? = some (.tup [.bs l[i].1, .bs l[i].2]) := by rw [XK, List.getElem?_eq_getElem hlt]; rfl
   have htk : l.take (i + 1) = l.take i ++ [l[i]] := XE hlt
   have hat := TD (p := fun x : Pr => decide (70 < x.1.length) || decide (300 < x.2.length)) hlt
   generalize l[i] = x at hd htk hat
   by_cases hc : 70 < x.1.length
   ·
    rw [hat (by simp [hc])]
    repeat
     (first
      | (apply eX; iterate 2 rfl) | (apply ak; iterate 3 rfl) | (apply ah; iterate 3 rfl) | (apply bC; iterate 7 rfl)
      | (apply aH; iterate 5 rfl) | (apply aS; iterate 4 rfl) | (apply aC (b := true); (iterate 2 rfl); exact aK; iterate 2 rfl)
      | (apply aP; iterate 4 rfl) | (apply aJ; iterate 4 rfl)
      | (apply bT; (iterate 4 rfl); exact ixA; iterate 2 rfl) | apply EL.nil
      | (apply EC.t0; rfl)
      | (with_reducible first | apply EK.nc | apply EC.seq | apply EC.r0 | apply EC.k0 | apply EC.b0 | apply EC.ret | apply EK.dK | apply EK.aG))
    exact EK.lZ rfl rfl rfl
   ·
    by_cases hs : 300 < x.2.length
    ·
     rw [hat (by simp [hs])]
     repeat
      (first
       | (apply ak; iterate 3 rfl) | (apply ah; iterate 3 rfl) | (apply bC; iterate 7 rfl) | (apply aH; iterate 5 rfl)
       | (apply aS; iterate 4 rfl) | (apply aC (b := true); (iterate 2 rfl); exact aK; iterate 2 rfl)
       | (apply aC (b := false); (iterate 2 rfl); exact aK; iterate 2 rfl) | (apply aP; iterate 4 rfl) | (apply aJ; iterate 4 rfl)
       | (apply bT; (iterate 4 rfl); exact ixA; iterate 2 rfl) | apply EL.nil
       | (apply EC.t0; rfl)
       | (with_reducible first | apply EK.nc | apply EC.seq | apply EC.r0 | apply EC.k0 | apply EC.b0 | apply EC.ret | apply EK.dK | apply EK.aG))
     exact EK.lZ rfl rfl rfl
    ·
     skip
     repeat
      (first
       | (apply ak; iterate 3 rfl) | (apply ah; iterate 3 rfl) | (apply bC; iterate 7 rfl) | (apply aH; iterate 5 rfl)
       | (apply aS; iterate 4 rfl) | (apply aC (b := true); (iterate 2 rfl); exact aK; iterate 2 rfl)
       | (apply aC (b := false); (iterate 2 rfl); exact aK; iterate 2 rfl) | (apply jh; (iterate 3 rfl); (focus omega); (focus omega); iterate 2 rfl)
       | (apply aP; iterate 4 rfl) | (apply aJ; iterate 4 rfl)
       | (apply bT; (iterate 4 rfl); exact ixA; iterate 2 rfl) | apply EL.nil
       | (apply EC.t0; rfl) | (apply EC.f0; rfl)
       | (with_reducible first | apply EK.nc | apply EC.seq | apply EC.r0 | apply EC.k0 | apply EC.b0 | apply EK.n0))
     refine EK.again ⟨i + 1, hlt, ?_⟩ (by dsimp only; omega) ?_
     ·
      rw [htk, List.any_append, hno]
      simp [hc, hs]
     ·
      simp only [XV]
      exact Le.kp
  ·
   have hiE : i = l.length := by omega
   subst hiE
   rw [Yl] at hno
   rw [hno]
   repeat
    (first
     | (apply ak; iterate 3 rfl) | (apply ah; iterate 3 rfl) | (apply aC (b := false); (iterate 2 rfl); exact aK; iterate 2 rfl)
     | (apply aJ; iterate 4 rfl) | apply EL.nil | (apply EC.f0; rfl)
     | (with_reducible first | apply EK.nc | apply EC.seq | apply EC.r0 | apply EC.x0 | apply EC.ret | apply EK.s0 | apply EK.aY))
   exact EK.lZ rfl rfl rfl

section
variable {N : Nat} {X : Cx N} {rs : List (Tmp × R)} {os : List Obj} {fs : List (Value × D)}
theorem Le.obj {o o' : Obj} (hb : o.blk = o'.blk) (h : ∀ (base ok : Nat → Prop) (w : World), (∀ f ∈ fs, Reads ok w f.2 [f.1]) → o.At base ok w → o'.At base ok w) : Le X ⟨rs, o :: os, fs⟩ ⟨rs, o' :: os, fs⟩ := fun a w ha => by
 have hok : ∀ b, X.ok (o :: os) w b ↔ X.ok (o' :: os) w b := fun b => ⟨fun h1 => ⟨h1.1, h1.2.1, fun p hp => by
  rcases XB.1 hp with rfl | hp
  ·
   rw [← hb]
   exact h1.2.2 o List.mem_cons_self
  · exact h1.2.2 p (Xw _ hp)⟩, fun h1 => ⟨h1.1, h1.2.1, fun p hp => by
  rcases XB.1 hp with rfl | hp
  ·
   rw [hb]
   exact h1.2.2 o' List.mem_cons_self
  · exact h1.2.2 p (Xw _ hp)⟩⟩
 have hap := Yj.1 ha.mem.apart
 have hf : ∀ f ∈ fs, Reads (X.ok (o' :: os) w) w f.2 [f.1] := fun f hf => Reads.mono (fun b hb => (hok b).1 hb) (fun _ _ => rfl) _ _ (ha.mem.fact f hf)
 refine ⟨⟨ha.mem.gr, Yj.2 ⟨fun p hp b e => hap.1 p hp b (hb.trans e), hap.2⟩, fun p hp => ?_, hf⟩, fun t' r hr => (ha.regs t' r hr).mono (fun b hb => (hok b).1 hb) fun _ _ => rfl, ha.size, ha.defers⟩
 rcases XB.1 hp with rfl | hp
 · exact h _ _ w hf ((ha.mem.at_ o List.mem_cons_self).move (fun b hb => (hok b).1 hb) (fun _ _ => rfl) fun _ _ => rfl)
 · exact (ha.mem.at_ p (Xw _ hp)).move (fun b hb => (hok b).1 hb) (fun _ _ => rfl) fun _ _ => rfl
theorem sK {ok : Nat → Prop} {w : World} {z : Nat} {d d' : D} (h : ∀ r, Reads ok w d r → Reads ok w d' r) : ∀ {ds : List D} {k : Nat} {rows : List (List Value)}, ds[k]? = some d → au ok w z ds rows → au ok w z (ds.set k d') rows
 | [], k, rows, hk, _ => by simp at hk
 | e :: ds, 0, rows, hk, hr => by
  obtain rfl : e = d := by simpa using hk
  rw [au] at hr
  obtain ⟨r, rest, e1, e2, e3, e4⟩ := hr
  rw [YX, au]
  exact ⟨r, rest, e1, e2, h r e3, e4⟩
 | e :: ds, k + 1, rows, hk, hr => by
  rw [au] at hr
  obtain ⟨r, rest, e1, e2, e3, e4⟩ := hr
  rw [YU, au]
  exact ⟨r, rest, e1, e2, e3, sK h (by simpa using hk) e4⟩
theorem Le.rowAt {v : Value} {e z k : Nat} {ds : List D} {d d' : D} (hk : ds[k]? = some d) (h : ∀ (ok : Nat → Prop) (w : World), (∀ f ∈ fs, Reads ok w f.2 [f.1]) → ∀ r, Reads ok w d r → Reads ok w d' r) : Le X ⟨rs, .row v e z ds :: os, fs⟩ ⟨rs, .row v e z (ds.set k d') :: os, fs⟩ := Le.obj rfl fun base ok w hf ha => by
 obtain ⟨rows, h1, h2⟩ := ha
 exact ⟨rows, by rw [YH]; exact h1, sK (h ok w hf) hk h2⟩
theorem Le.VZ {v : Value} {e z k : Nat} {ds : List D} {d d' : D} (hk : ds[k]? = some d) (h : Refine fs d d') : Le X ⟨rs, .row v e z ds :: os, fs⟩ ⟨rs, .row v e z (ds.set k d') :: os, fs⟩ := Le.rowAt hk fun ok w hf r hr => (Refine.reads hf _ _ _ h hr).1
end
def bvD (l : List UInt8) : List D := l.map fun b => .v (bv b)
theorem Ey {ok : Nat → Prop} {w : World} : ∀ (l : List UInt8), ∃ rows : List (List Value), rows.flatten = bvs l ∧ au ok w 1 (bvD l) rows
 | [] => ⟨[], rfl, by show au ok w 1 [] []; rw [au]⟩
 | b :: l => by
  obtain ⟨rows, h1, h2⟩ := Ey (ok := ok) (w := w) l
  refine ⟨[bv b] :: rows, by rw [X8, h1]; rfl, ?_⟩
  show au ok w 1 (.v (bv b) :: bvD l) _
  rw [au]
  exact ⟨_, _, rfl, rfl, by rw [Reads]; exact ⟨rfl, rfl⟩, h2⟩
theorem Vr {ok : Nat → Prop} {w : World} {l : List UInt8} {x : Value} (h : bY ok w (.bs l) x) : ∃ A c rows, x = .slice A (bvD l).length c ∧ (bvD l).length ≤ c ∧ c ≤ maxLen ∧ True ∧ RdP ok w A rows.flatten ∧ au ok w 1 (bvD l) rows := by
 have h1 := (bM (d := .bs l) rfl).1 h
 rw [Reads] at h1
 obtain ⟨u, e, A, c, rfl, g1, g2, g4⟩ := h1
 obtain ⟨rows, h3, h4⟩ := Ey (ok := ok) (w := w) l
 have hl2 : (bvD l).length = l.length := List.length_map _
 exact ⟨A, c, rows, by rw [hl2]; exact Zn.1 e, by rw [hl2]; exact g1, g2, trivial, by rw [h3]; exact g4, h4⟩
section
variable {N : Nat} {X : Cx N} {S : St} {ops : Array Oper} {o : Oper} {Q : Exit → Act → World → Prop} {l : List Oper} {rs : List (Tmp × R)} {os : List Obj} {fs : List (Value × D)}
theorem EL.TB {T e y' : Nat} {s x : Operand} {v : Value} {ds : List D} {m : List UInt8} (i : Nat) (ho : o.op = .call { callee := .builtin .append, args := #[s, x], argTypes := #[T, T] }) (hg : guardOf ops S o = some true) (hd : ∀ t, o.dst = some t → t < N) (hT : SlT Tryz.prog T e 1 y')
  (hs : ev S s = some (.val (.v v))) (hi : S.objs[i]? = some (.row v e 1 ds)) (hx : ev S x = some (.val (.bs m))) (hlen : (ds.length + (bvD m).length) * y' ≤ 140737488355328 ∧ ds.length + (bvD m).length ≤ 9223372036854775807)
  (k : ∀ v', EL X ops Q l (St.put ⟨S.regs, S.objs.set i (.row v' e 1 (ds ++ bvD m)), S.facts⟩ o.dst (.val (.v v')))) : EL X ops Q (o :: l) S := by
 constructor
 intro a w ha
 have hk := ha.kn fun t => t ∈ o.looksAt ops
 have hs' := iT hk hs fun t e => aQ e (by rw [ho]; simp [Op.operands, Call.operands])
 obtain ⟨A, c, rows', h1, h2, h3, h4, h5, h6⟩ := Vr (hk.ev hx fun t e => aQ e (by rw [ho]; simp [Op.operands, Call.operands]))
 obtain ⟨rows, h7, h8⟩ := ha.mem.at_ _ (XZ hi)
 obtain ⟨hl1, hl2⟩ := au.lens (bvD m) rows' h6
 have hlen' : rows'.flatten.length = (bvD m).length * 1 := by
  have : ∀ rows : List (List Value), (∀ r ∈ rows, r.length = 1) → rows.flatten.length = rows.length * 1 := by
   intro rows
   induction rows with
   | nil => simp
   | cons r rows ih =>
    intro h
    rw [X8, List.length_append, h r (by simp), ih fun r hr => h r (by simp [hr]), List.length_cons, YA, YQ, YV]
  rw [this rows' hl2, hl1]
 have hrd : Rd w w.heap.size A rows'.flatten := fun hn => by
  obtain ⟨b, n, e, hb, hc⟩ := h5 hn
  exact ⟨b, n, e, hb.2.1, hc⟩
 have hge := ha.mem.gr.size
 obtain ⟨A', c', w', hrun, hown, hgr, hblk⟩ := jL (P := Tryz.prog) (ty := o.type) (c := c) hT h7.1 hlen' hrd (au.one (bvD m) rows' h6) (by simp only [maxLen]; exact hlen.2) hlen.1 (XQ _)
 unfold wpList
 rw [if_pos (iO ha hg)]
 refine .inl ?_
 unfold Oper.wp execOp
 simp only [ho, resolve, invoke, builtin, XO, XR, XF, YW, X0, Yw, hs', h1, hrun]
 refine (k _).go _ _ ((ha.turn (q := .row (.slice A' (ds.length + (bvD m).length) c') e 1 (ds ++ bvD m)) hi hgr ?_ fun hok hcell => ⟨rows ++ rows', ?_, au.append ds (bvD m) rows rows' (au.mono hok hcell 1 ds rows h8) (au.mono hok hcell 1 (bvD m) rows' h6)⟩).put hd (jK rfl))
 ·
  rcases hblk with hb | hb
  · exact .inl hb
  · exact .inr ⟨_, hb, Nat.le_refl _⟩
 ·
  rw [Yz, List.length_append]
  refine ⟨hown, fun b hb => ?_⟩
  rcases hblk with e | e
  · exact h7.2 b (e ▸ hb)
  ·
   rw [e] at hb
   cases hb
   exact .inr hge
theorem NS {t T e y ty : Nat} {pos : String} {af : Array Edge} {gd : Option (Nat × Bool)} {s x : Operand} {v : Value} {ds : List D} {m : List UInt8} {os' : Value → List Obj} (hs : ev (⟨rs, os, fs⟩ : St) s = some (.val (.v v))) (hset : qW os (.row v e 1 ds) (fun v' => .row v' e 1 (ds ++ bvD m)) os') (hx : ev (⟨rs, os, fs⟩ : St) x = some (.val (.bs m))) (hT : assoc slL T = some (e, 1, y)) (hg : guardOf ops ⟨rs, os, fs⟩ ⟨some t, .call { callee := .builtin .append, args := #[s, x], argTypes := #[T, T] }, ty, pos, af, gd⟩ = some true) (hN : Nat.blt t N = true) (hlen : (ds.length + m.length) * y ≤ 140737488355328 ∧ ds.length + m.length ≤ 9223372036854775807) (kk : ∀ v', EL X ops Q l ⟨(t, .val (.v v')) :: rs, os' v', fs⟩) : EL X ops Q (⟨some t, .call { callee := .builtin .append, args := #[s, x], argTypes := #[T, T] }, ty, pos, af, gd⟩ :: l) ⟨rs, os, fs⟩ := by
 obtain ⟨i, hi, hl'⟩ := hset.ix
 have hl2 : (bvD m).length = m.length := List.length_map _
 rw [← hl2] at hlen
 exact EL.TB (v := v) (ds := ds) i rfl hg (mG rfl hN) (Rk hT rfl) hs hi hx hlen fun v' => by
  have := kk v'
  rw [hl' v'] at this
  exact this
end
theorem Le.WM {N : Nat} {X : Cx N} {rs : List (Tmp × R)} {os : List Obj} {fs : List (Value × D)} {v : Value} {l : List UInt8} : Le X ⟨rs, os, (v, .sl 1 (bvD l)) :: fs⟩ ⟨rs, os, (v, .bs l) :: fs⟩ := fun a w h => by
 refine ⟨⟨h.mem.gr, h.mem.apart, h.mem.at_, fun f hf => ?_⟩, h.regs, h.size, h.defers⟩
 rcases XB.1 hf with rfl | hf
 ·
  have h1 := h.mem.fact _ List.mem_cons_self
  rw [Reads] at h1
  rw [Reads]
  obtain ⟨A, c, rows, e, g1, g2, g3, g4, g5⟩ := h1
  have hl2 : (bvD l).length = l.length := List.length_map _
  rw [hl2] at e g1 g3
  refine ⟨_, rfl, A, c, Zn.1 e, g1, g2, ?_⟩
  rw [← vT l rows g5]
  exact g4
 · exact h.mem.fact f (Xw _ hf)
end E
end Go.Proofs.YtelbhdobjdnglaaGreat
